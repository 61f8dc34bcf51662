/- The law FnExactFormatPolicy answers true at every input that its statement lets in. -/
import Derived.Test.YtojaakpnpdnbhaaDoorLt
import Derived.Test.YtojaakpnpdnbhaaDoorLr
import Derived.Test.YtojaakpnpdnbhaaDoorLs
import Derived.Test.YtojaakpnpdnbhaaDoorLy
import Derived.Test.YtojaakpnpdnbhaaDoorMz
import Derived.Test.YtojaakpnpdnbhaaDoorMs
import Derived.Test.YtojaakpnpdnbhaaDoorRows
import Derived.Test.YtojaakpnpdnbhaaDoorCards
import Derived.Test.YtojaakpnpdnbhaaDoorTie
import Derived.SevenTiedAt
import Derived.LaidLaws
/- What the functions over words and rows of words compute: contracts, for rows that fit into memory. -/
set_option linter.unusedVariables false
set_option linter.unusedSimpArgs false
set_option maxRecDepth 100000
namespace Go.Proofs.YtojaakpnpdnbhaaDoor.L
open Go.RowKit
abbrev dv (v : Value) : LV := .d (.v v)
abbrev di (n : Int) : LV := .d (.v (.int .i64 n))
abbrev rb (b : Bool) : RV := .r (.one (.v (.bool b)))
abbrev ri (n : Int) : RV := .r (.one (.v (.int .i64 n)))
abbrev ints (l : List Int) : D := .l l.length fun i => [.v (.int .i64 (l.getD i 0))]

def inR (n a b : Int) : Bool := decide (a ≤ n) && decide (n ≤ b)
def isW (n : Int) : Bool := inR n 0 4294967295
theorem eqv {α : Type} {f : α → Value} {a b : α} (h : a = b) : f a = f b := by rw [h]

theorem c_impl_within (n a b : Int) : FnOK Tryd.prog 52 [di n, di a, di b] (rb (inR n a b)) := by
  refine fn_of lv52 Tryd.func52 rfl rfl rfl rfl ?_
  refine bsplit_intro (fun h => ?_) (fun h => ?_)
  · repeat' (first | refine bsplit_true ?_ | refine bsplit_false ?_)
    refine ⟨⟨congrArg Value.bool (?_ : decide (n ≤ b) = _), trivial⟩, rfl⟩
    simp at h; simp [inR, h]
  · repeat' (first | refine bsplit_true ?_ | refine bsplit_false ?_)
    refine ⟨⟨congrArg Value.bool (?_ : false = _), trivial⟩, rfl⟩
    simp at h; simp [inR]; omega
theorem c_spec_l1In (n a b : Int) : FnOK Tryd.prog 45 [di n, di a, di b] (rb (inR n a b)) := by
  refine fn_of lv45 Tryd.func45 rfl rfl rfl rfl ?_
  refine bsplit_intro (fun h => ?_) (fun h => ?_)
  · repeat' (first | refine bsplit_true ?_ | refine bsplit_false ?_)
    refine ⟨⟨congrArg Value.bool (?_ : decide (n ≤ b) = _), trivial⟩, rfl⟩
    simp at h; simp [inR, h]
  · repeat' (first | refine bsplit_true ?_ | refine bsplit_false ?_)
    refine ⟨⟨congrArg Value.bool (?_ : false = _), trivial⟩, rfl⟩
    simp at h; simp [inR]; omega

theorem drop_all (l : List Int) (p : Int → Bool) (i : Nat) (h : i < l.length) : (l.drop i).all p = (p (l.getD i 0) && (l.drop (i + 1)).all p) := by
  rw [List.drop_eq_getElem_cons h, List.all_cons]
  simp [List.getD, List.getElem?_eq_getElem h]
theorem wrap_i64 (n : Int) (h1 : -9223372036854775808 ≤ n) (h2 : n < 9223372036854775808) : IntKind.i64.wrap n = n := by rw [IntKind.wrap_i64]; omega

theorem c_laws_szInt64S (l : List Int) (q : Int) (hq : -9223372036854775808 ≤ q - l.length) (hq2 : q - l.length < 9223372036854775808) : FnOK Tryd.prog 26 [.d (ints l), di q] (ri (if q - l.length < 0 then -1 else q - l.length)) := by
  refine fn_of lv26 Tryd.func26 rfl rfl rfl rfl ?_
  refine bsplit_intro (fun h => ?_) (fun h => ?_)
  · refine ⟨⟨congrArg (Value.int .i64) (?_ : (-1 : Int) = _), trivial⟩, rfl⟩
    rw [wrap_i64 _ hq hq2] at h
    simp only [decide_eq_true_eq] at h
    rw [if_pos h]
  · refine ⟨⟨congrArg (Value.int .i64) (?_ : IntKind.i64.wrap (q - l.length) = _), trivial⟩, rfl⟩
    rw [wrap_i64 _ hq hq2] at h ⊢
    simp only [decide_eq_false_iff_not] at h
    rw [if_neg h]
theorem drop_any (l : List Int) (p : Int → Bool) (i : Nat) (h : i < l.length) : (l.drop i).any p = (p (l.getD i 0) || (l.drop (i + 1)).any p) := by
  rw [List.drop_eq_getElem_cons h, List.any_cons]
  simp [List.getD, List.getElem?_eq_getElem h]
def idxOf (l : List Int) (p : Int → Bool) (i : Nat) : Int := bif (l.drop i).any p then (((l.drop i).findIdx p + i : Nat) : Int) else -1
theorem idx_hit {l : List Int} {p : Int → Bool} {i : Nat} (h : i < l.length) (hp : p (l.getD i 0) = true) : idxOf l p i = i := by
  unfold idxOf
  rw [drop_any l p i h, hp, List.drop_eq_getElem_cons h]
  have : p l[i] = true := by simpa [List.getD, List.getElem?_eq_getElem h] using hp
  rw [List.findIdx_cons, this]
  simp
theorem idx_miss {l : List Int} {p : Int → Bool} {i : Nat} (h : i < l.length) (hp : p (l.getD i 0) = false) : idxOf l p i = idxOf l p (i + 1) := by
  unfold idxOf
  rw [drop_any l p i h, hp, Bool.false_or, List.drop_eq_getElem_cons h]
  have : p l[i] = false := by simpa [List.getD, List.getElem?_eq_getElem h] using hp
  cases (List.drop (i + 1) l).any p with
  | false => rfl
  | true =>
    simp only [cond_true, List.findIdx_cons, this, cond_false]
    omega
theorem idx_end {l : List Int} {p : Int → Bool} {i : Nat} (h : l.length ≤ i) : idxOf l p i = -1 := by
  unfold idxOf
  rw [List.drop_eq_nil_of_le h]; rfl

abbrev intsF (l : List Int) (i : Nat) : List D := [.v (.int .i64 (l.getD i 0))]
abbrev oInts (l : List Int) : RC := .own 2 1 l.length (intsF l)
theorem c_laws_toInt64S (l : List Int) (hl : l.length * 8 ≤ 140737488355328) : FnOK Tryd.prog 31 [.d (ints l)] (.r (.one (oInts l))) := by
  refine fn_of lv31 Tryd.func31 rfl rfl rfl rfl ?_
  refine ask_intro ⟨rfl, by omega, by show (l.length : Int) * 8 ≤ 140737488355328; omega, by omega⟩ ?_
  refine ⟨{ i : Nat // i ≤ l.length }, fun i => ⟨frL [(0, .d (ints l)), (3, .row 96), (4, di i.1)], hpL [(96, .row 2 1 l.length fun j => if j < i.1 then intsF l j else [.v (.int .i64 0)])], 97, 0⟩, fun i => l.length - i.1, ⟨0, by omega⟩,
    le_of [(96, 4160)] rfl rfl rfl rfl (tellHp_row rfl rfl rfl (fun i hi => rfl) tellHp_nil) (tellFr_d rfl (DLe.refl _) (tellFr_row rfl rfl (tellFr_v rfl rfl trivial))), ?_⟩
  rintro ⟨i, hi⟩
  refine bsplit_intro (fun h => ?_) (fun h => ?_)
  · have h : i < l.length := by simp at h; exact h
    refine ask_intro ⟨by omega, by simp; omega, rfl⟩ ?_
    refine ask_intro ⟨by omega, by simp; omega⟩ ?_
    refine ask_intro (by show i < l.length; exact h) ?_
    refine ⟨⟨i + 1, by omega⟩, le_of [(96, 96)] rfl rfl rfl rfl (tellHp_row rfl rfl rfl (fun j hj => ?_) tellHp_nil) (tellFr_d rfl (DLe.refl _) (tellFr_row rfl rfl (tellFr_v rfl (congrArg (Value.int .i64) (?_ : IntKind.i64.wrap ((i : Int) + 1) = ((i + 1 : Nat) : Int))) trivial))), ?_⟩
    · show (if j = i then _ else if j < i then intsF l j else [.v (.int .i64 0)]) = if j < i + 1 then intsF l j else [.v (.int .i64 0)]
      by_cases h1 : j = i
      · subst h1
        rw [if_pos rfl, if_pos (by omega)]
        simp [splice, intsF]
      · rw [if_neg h1]
        by_cases h2 : j < i
        · rw [if_pos h2, if_pos (by omega)]
        · rw [if_neg h2, if_neg (by omega)]
    · exact wrap_i64 (i + 1) (by omega) (by omega)
    · show l.length - (i + 1) < l.length - i
      omega
  · simp at h
    refine ⟨⟨⟨rfl, rfl, rfl, fun j hj => ⟨?_, rfl⟩⟩, trivial⟩, rfl⟩
    show (if j < i then intsF l j else _) = _
    rw [if_pos (by omega)]
theorem drop_cons (l : List Int) (i : Nat) (h : i < l.length) : l.drop i = l.getD i 0 :: l.drop (i + 1) :=
  (List.drop_eq_getElem_cons h).trans (by rw [show l[i] = l.getD i 0 by simp [List.getD, List.getElem?_eq_getElem h]])
theorem c_laws_eqInt64S (l m : List Int) (hl : l.length ≤ 9223372036854775807) : FnOK Tryd.prog 41 [.d (ints l), .d (ints m)] (rb (l == m)) := by
  refine fn_of lv41 Tryd.func41 rfl rfl rfl rfl ?_
  refine bsplit_intro (fun h => ?_) (fun h => ?_)
  · refine ⟨⟨congrArg Value.bool (?_ : false = _), trivial⟩, rfl⟩
    simp at h
    symm
    rw [beq_eq_false_iff_ne]
    rintro rfl
    exact h rfl
  have hlen : l.length = m.length := by simp at h; omega
  refine ⟨{ i : Nat // i ≤ l.length ∧ (l.drop i == m.drop i) = (l == m) }, fun i => ⟨frL [(0, .d (ints l)), (1, .d (ints m)), (5, di i.1)], hpL [], 0, 0⟩, fun i => l.length - i.1, ⟨0, by simp⟩,
    le_of [] rfl rfl rfl rfl trivial (tellFr_d rfl (DLe.refl _) (tellFr_d rfl (DLe.refl _) (tellFr_v rfl rfl trivial))), ?_⟩
  rintro ⟨i, hi, hall⟩
  refine bsplit_intro (fun h => ?_) (fun h => ?_)
  · have h : i < l.length := by simp at h; exact h
    have hd : (l.drop i == m.drop i) = ((l.getD i 0 == m.getD i 0) && (l.drop (i + 1) == m.drop (i + 1))) := by
      rw [drop_cons l i h, drop_cons m i (by omega)]
      exact List.cons_beq_cons
    refine ask_intro ⟨by omega, by simp; omega, rfl⟩ ?_
    refine ask_intro ⟨by omega, by simp; omega, rfl⟩ ?_
    refine chk_intro rfl ?_
    refine bsplit_intro (fun h2 => ?_) (fun h2 => ?_)
    · refine ⟨⟨congrArg Value.bool (?_ : false = _), trivial⟩, rfl⟩
      have h2 : (l.getD i 0 != m.getD i 0) = true := h2
      rw [← hall, hd]
      have h2 : (l.getD i 0 == m.getD i 0) = false := by simpa [bne] using h2
      rw [h2]; rfl
    · have h2 : (l.getD i 0 != m.getD i 0) = false := h2
      refine ⟨⟨i + 1, by omega, ?_⟩, le_of [] rfl rfl rfl rfl trivial (tellFr_d rfl (DLe.refl _) (tellFr_d rfl (DLe.refl _) (tellFr_v rfl (congrArg (Value.int .i64) (?_ : IntKind.i64.wrap ((i : Int) + 1) = ((i + 1 : Nat) : Int))) trivial))), ?_⟩
      · rw [← hall, hd]
        have h2 : (l.getD i 0 == m.getD i 0) = true := by simpa [bne] using h2
        rw [h2]; rfl
      · exact wrap_i64 (i + 1) (by omega) (by omega)
      · show l.length - (i + 1) < l.length - i
        omega
  · refine ⟨⟨congrArg Value.bool (?_ : true = _), trivial⟩, rfl⟩
    simp at h
    rw [← hall, List.drop_eq_nil_of_le h, List.drop_eq_nil_of_le (by omega)]; rfl
end Go.Proofs.YtojaakpnpdnbhaaDoor.L

/- What the functions that look at a machine compute: contracts, for machines that fit into memory. -/
set_option linter.unusedVariables false
set_option linter.unusedSimpArgs false
set_option maxRecDepth 100000
namespace Go.Proofs.YtojaakpnpdnbhaaDoor.L
open Go.RowKit
structure HartM where
  regs : List Int
  pc : Int
  csr : List Int
  halted : Bool
  waiting : Bool
  rung : Bool
  done : Int
  inp : List Int
  out : List Int
  deriving DecidableEq
abbrev dI (n : Int) : D := .v (.int .i64 n)
abbrev dB (n : Bool) : D := .v (.bool n)
abbrev hartD (h : HartM) : List D := [ints h.regs, dI h.pc, ints h.csr, dB h.halted, dB h.waiting, dB h.rung, dI h.done, ints h.inp, ints h.out]
abbrev hartLV (h : HartM) : LV := .agg [.d (ints h.regs), di h.pc, .d (ints h.csr), dv (.bool h.halted), dv (.bool h.waiting), dv (.bool h.rung), di h.done, .d (ints h.inp), .d (ints h.out)]
abbrev hartR (h : HartM) : RV1 := .agg [oInts h.regs, .v (.int .i64 h.pc), oInts h.csr, .v (.bool h.halted), .v (.bool h.waiting), .v (.bool h.rung), .v (.int .i64 h.done), oInts h.inp, oInts h.out]

structure HartM.small (h : HartM) : Prop where
  regs : h.regs.length * 8 ≤ 140737488355328
  csr : h.csr.length * 8 ≤ 140737488355328
  inp : h.inp.length * 8 ≤ 140737488355328
  out : h.out.length * 8 ≤ 140737488355328

theorem HartM.small.lens {h : HartM} (hs : h.small) : h.regs.length ≤ 9223372036854775807 ∧ h.csr.length ≤ 9223372036854775807 ∧ h.inp.length ≤ 9223372036854775807 ∧ h.out.length ≤ 9223372036854775807 := by
  obtain ⟨h1, h2, h3, h4⟩ := hs
  omega

def hFault (h : HartM) : Int :=
  bif ((h.regs.length : Int) != 16) || (((h.csr.length : Int) != 11) || (h.regs.getD 0 0 != 0)) then 1 else
  bif !(h.regs.all isW) || (!(isW h.pc) || (!(h.csr.all isW) || (!(h.inp.all isW) || !(h.out.all isW)))) then 3 else
  bif decide ((h.inp.length : Int) > 40) || decide ((h.out.length : Int) > 40) then 2 else
  bif !(inR h.done 0 1000000000) then 3 else
  bif decide (h.csr.getD 0 0 > 3) || (decide (h.csr.getD 7 0 > 7) || (decide (h.csr.getD 10 0 > 8) || ((h.csr.getD 6 0 != 0) || (h.csr.getD 8 0 != 0)))) then 1 else 0

def hSz (m : HartM) (q : Int) : Int :=
  let q1 := q - m.regs.length
  let q2 := q1 - m.csr.length
  let q3 := q2 - m.inp.length
  let q4 := q3 - m.out.length
  if q1 < 0 ∨ q2 < 0 ∨ q3 < 0 ∨ q4 < 0 then -1 else q4
theorem c_laws_szInt64Sn (l : List Int) (q : Int) (hq : -9223372036854775808 ≤ q - l.length) (h : q - l.length < 0) : FnOK Tryd.prog 26 [.d (ints l), di q] (ri (-1)) := by
  have := c_laws_szInt64S l q hq (by omega)
  rwa [if_pos h] at this
theorem c_laws_szInt64Sp (l : List Int) (q : Int) (hq : q - l.length < 9223372036854775808) (h : ¬ q - l.length < 0) : FnOK Tryd.prog 26 [.d (ints l), di q] (ri (q - l.length)) := by
  have := c_laws_szInt64S l q (by omega) hq
  rwa [if_neg h] at this
end Go.Proofs.YtojaakpnpdnbhaaDoor.L

/- What the functions that ask a machine compute: contracts. -/
set_option linter.unusedVariables false
set_option linter.unusedSimpArgs false
set_option maxRecDepth 100000
namespace Go.Proofs.YtojaakpnpdnbhaaDoor.L
open Go.RowKit
abbrev irR (p : Int × Int) : RV1 := .agg [.v (.int .i64 p.1), .v (.int .i64 p.2)]
abbrev irLV (p : Int × Int) : LV := .agg [di p.1, di p.2]

theorem hFault_zero {m : HartM} (h : hFault m = 0) : m.regs.length = 16 ∧ m.csr.length = 11 ∧ m.inp.length ≤ 40 ∧ m.out.length ≤ 40 := by
  unfold hFault at h
  cases h1 : (((m.regs.length : Int) != 16) || (((m.csr.length : Int) != 11) || (m.regs.getD 0 0 != 0))) with
  | true => rw [h1] at h; simp at h
  | false =>
    rw [h1, cond_false] at h
    cases h0 : !m.regs.all isW || (!isW m.pc || (!m.csr.all isW || (!m.inp.all isW || !m.out.all isW))) with
    | true => rw [h0] at h; simp at h
    | false =>
    rw [h0, cond_false] at h
    cases h2 : decide ((m.inp.length : Int) > 40) || decide ((m.out.length : Int) > 40) with
    | true => rw [h2] at h; simp at h
    | false =>
      simp at h1 h2
      omega
theorem fault_ne {m : HartM} (h : (hFault m != 0) = false) : hFault m = 0 := by simpa using h

def pend (m : HartM) : Int := (if m.csr.getD 9 0 ≠ 0 ∧ m.done ≥ m.csr.getD 9 0 then 1 else 0) + (if m.rung = true then 2 else 0) + (if 0 < m.inp.length then 4 else 0)
def pendingOf (m : HartM) : Int × Int := if hFault m = 0 then (0, pend m) else (hFault m, 0)
def csrOf (m : HartM) (k : Int) : Int := if k = 6 then pend m else if k = 8 then m.done else m.csr.getD k.toNat 0
def getCsr (m : HartM) (k : Int) : Int × Int := if hFault m = 0 then (if inR k 0 10 = true then (0, csrOf m k) else (3, 0)) else (hFault m, 0)
theorem inR_iff {n a b : Int} : inR n a b = true ↔ a ≤ n ∧ n ≤ b := by simp [inR]
end Go.Proofs.YtojaakpnpdnbhaaDoor.L

/- What the functions compute that mark what a result owns, and look whether it is held: contracts. -/
set_option linter.unusedVariables false
set_option linter.unusedSimpArgs false
set_option maxRecDepth 100000
namespace Go.Proofs.YtojaakpnpdnbhaaDoor.L
open Go.RowKit
/-- the numbers from k on -/
def markL (k : Int) (n : Nat) : List Int := (List.range n).map fun (i : Nat) => k + (i : Int)
theorem markL_len (k : Int) (n : Nat) : (markL k n).length = n := by simp [markL]
theorem markL_get (k : Int) (n i : Nat) (h : i < n) : (markL k n).getD i 0 = k + i := by simp [markL, List.getD, h]
abbrev rowE (l : List Int) : Ent := .row 2 1 l.length (intsF l)

abbrev hartK (m : HartM) (a b c d : Nat) : List LV := [.row a, di m.pc, .row b, dv (.bool m.halted), dv (.bool m.waiting), dv (.bool m.rung), di m.done, .row c, .row d]
abbrev rowM (l : List Int) (k : Int) : Ent := .row 2 1 l.length (intsF (markL k l.length))
abbrev datM (l : List Int) (k : Int) : LV := .d (.l l.length (intsF (markL k l.length)))
structure HartM.few (m : HartM) : Prop where
  regs : m.regs.length ≤ 1048576
  csr : m.csr.length ≤ 1048576
  inp : m.inp.length ≤ 1048576
  out : m.out.length ≤ 1048576
def hLen (m : HartM) : Int := m.regs.length + m.csr.length + m.inp.length + m.out.length
abbrev hK1 (m : HartM) (k : Int) : Int := k + m.regs.length
abbrev hK2 (m : HartM) (k : Int) : Int := hK1 m k + m.csr.length
abbrev hK3 (m : HartM) (k : Int) : Int := hK2 m k + m.inp.length
abbrev hK4 (m : HartM) (k : Int) : Int := hK3 m k + m.out.length
abbrev hMarks (m : HartM) (k : Int) : List (Nat × Ent) := [(0, rowM m.regs k), (1, rowM m.csr (hK1 m k)), (2, rowM m.inp (hK2 m k)), (3, rowM m.out (hK3 m k))]
abbrev hRows (m : HartM) : List (Nat × Ent) := [(0, rowE m.regs), (1, rowE m.csr), (2, rowE m.inp), (3, rowE m.out)]

theorem hK_le (m : HartM) (k : Int) (hf : m.few) (hk : 0 ≤ k) (hk2 : k ≤ 1048576) : (0 ≤ hK1 m k ∧ hK1 m k ≤ 1099511627776) ∧ (0 ≤ hK2 m k ∧ hK2 m k ≤ 1099511627776) ∧ (0 ≤ hK3 m k ∧ hK3 m k ≤ 1099511627776) ∧ (0 ≤ hK4 m k ∧ hK4 m k ≤ 1099511627776) := by
  obtain ⟨b1, b2, b3, b4⟩ := hf
  unfold hK4 hK3 hK2 hK1
  omega
abbrev hrLV (p : Int × HartM) : LV := .agg [di p.1, .d (ints p.2.regs), di p.2.pc, .d (ints p.2.csr), dv (.bool p.2.halted), dv (.bool p.2.waiting), dv (.bool p.2.rung), di p.2.done, .d (ints p.2.inp), .d (ints p.2.out)]
abbrev hrR (p : Int × HartM) : RV1 := .agg [.v (.int .i64 p.1), oInts p.2.regs, .v (.int .i64 p.2.pc), oInts p.2.csr, .v (.bool p.2.halted), .v (.bool p.2.waiting), .v (.bool p.2.rung), .v (.int .i64 p.2.done), oInts p.2.inp, oInts p.2.out]

end Go.Proofs.YtojaakpnpdnbhaaDoor.L

/- What the functions compute that make a new machine: contracts. -/
set_option linter.unusedVariables false
set_option linter.unusedSimpArgs false
set_option maxRecDepth 100000
namespace Go.Proofs.YtojaakpnpdnbhaaDoor.L
open Go.RowKit
def hartZ : HartM := ⟨[], 0, [], false, false, false, 0, [], []⟩
def newHart (l : List Int) : Int × HartM :=
  bif decide ((l.length : Int) > 40) then (2, hartZ) else bif !(l.all isW) then (3, hartZ) else (0, { hartZ with regs := List.replicate 16 0, csr := List.replicate 11 0, inp := l })
theorem rep_get (n i : Nat) : intsF (List.replicate n 0) i = [.v (.int .i64 0)] := by
  show [D.v (.int .i64 ((List.replicate n (0 : Int)).getD i 0))] = _
  have : (List.replicate n (0 : Int)).getD i 0 = 0 := by
    simp only [List.getD, List.getElem?_replicate]
    split <;> rfl
  rw [this]
end Go.Proofs.YtojaakpnpdnbhaaDoor.L

/- What the functions compute that copy and ring a machine: contracts. -/
set_option linter.unusedVariables false
set_option linter.unusedSimpArgs false
set_option maxRecDepth 100000
namespace Go.Proofs.YtojaakpnpdnbhaaDoor.L
open Go.RowKit
def ringHart (m : HartM) : Int × HartM := if hFault m = 0 then (0, { m with rung := true }) else (hFault m, hartZ)
end Go.Proofs.YtojaakpnpdnbhaaDoor.L

/- What the functions that look at pages and memories compute: contracts. -/
set_option linter.unusedVariables false
set_option linter.unusedSimpArgs false
set_option maxRecDepth 100000
namespace Go.Proofs.YtojaakpnpdnbhaaDoor.L
open Go.RowKit
structure PageM where
  to : Int
  kinds : Int
  deriving DecidableEq
abbrev pageD (p : PageM) : List D := [.v (.int .i64 p.to), .v (.int .i64 p.kinds)]
abbrev pagesF (l : List PageM) (i : Nat) : List D := pageD (l.getD i ⟨0, 0⟩)
abbrev pages (l : List PageM) : D := .l l.length (pagesF l)
def firstNZ : List Int → Int
  | [] => 0
  | x :: xs => if x = 0 then firstNZ xs else x
def pageBad (top : Int) (p : PageM) : Int := bif !inR p.to (-1) (top - 1) || !inR p.kinds 0 7 then 3 else bif (p.to == -1) && (p.kinds != 0) then 1 else 0
def pagesFault (l : List PageM) (top : Int) : Int := bif !inR top 1 24 then 3 else bif (l.length : Int) != 8 then 1 else firstNZ (l.map (pageBad top))
theorem map_drop {α : Type} (d : α) (f : α → Int) (l : List α) (i : Nat) (h : i < l.length) : (l.drop i).map f = f (l.getD i d) :: (l.drop (i + 1)).map f := by
  rw [List.drop_eq_getElem_cons h, List.map_cons]
  simp [List.getD, List.getElem?_eq_getElem h]
def memFault (m : List Int) : Int := bif ((m.length : Int) == 0) || (decide ((m.length : Int) > 192) || (Int.tmod m.length 8 != 0)) then 1 else bif !m.all isW then 3 else 0
end Go.Proofs.YtojaakpnpdnbhaaDoor.L

/- How a machine, a word, a row of words that a law is handed is read: as data, of a size that a process can hold. -/
set_option linter.unusedVariables false
set_option linter.unusedSimpArgs false
set_option maxRecDepth 100000
namespace Go.Proofs.YtojaakpnpdnbhaaDoor.L
open Go.RowKit Go.ChangeShapes Go.WideShapes Go.ChangeAt

theorem own : ownKnob Tryd.prog.godebug = none := by kernel_rfl
theorem laidOut : laidOutB Tryd.prog = true := by kernel_rfl
theorem reach_eq : reachBytes = 140737488351232 := by decide
abbrev ok64 (n : Int) : Prop := (Lit.int .i64 n).wf = true
theorem ok64_le {n : Int} (h : ok64 n) : -9223372036854775808 ≤ n ∧ n ≤ 9223372036854775807 := by
  have h' : IntKind.i64.min ≤ n ∧ n ≤ 9223372036854775807 := by simpa [ok64, Lit.wf] using h
  have e : IntKind.i64.min = -9223372036854775808 := by decide
  rw [e] at h'
  exact h'
abbrev okInts (l : List Int) : Prop := l.length * 8 ≤ reachBytes ∧ ∀ x ∈ l, ok64 x

theorem reads_int64 : ReadsT Tryd.prog 2 1 Int (fun n => [.v (.int .i64 n)]) ok64 := ReadsT.int Tryd.underlying2 (by kernel_rfl)
theorem reads_bool : ReadsT Tryd.prog 4 1 Bool (fun n => [.v (.bool n)]) (fun _ => True) := ReadsT.bool Tryd.underlying4 (by kernel_rfl)
theorem reads_ints : ReadsT Tryd.prog 53 1 (List Int) (fun l => [ints l]) okInts := ReadsT.slice reads_int64 Tryd.underlying53 (by kernel_rfl) (by decide) 0 (by kernel_rfl)
structure HartM.ok (h : HartM) : Prop where
  small : h.small
  pc : ok64 h.pc
  done : ok64 h.done
  regs : okInts h.regs
  csr : okInts h.csr
  inp : okInts h.inp
  out : okInts h.out
end Go.Proofs.YtojaakpnpdnbhaaDoor.L

/- What the functions compute that turn a machine that is pointed at: contracts. -/
set_option linter.unusedVariables false
set_option linter.unusedSimpArgs false
set_option maxRecDepth 100000
namespace Go.Proofs.YtojaakpnpdnbhaaDoor.L
open Go.RowKit
theorem set_row (l : List Int) (i : Nat) (v : Int) (h : i < l.length) (j : Nat) : (if j = i then splice (intsF l j) 0 [D.v (.int .i64 v)] else intsF l j) = intsF (l.set i v) j := by
  by_cases e : j = i
  · subst e
    rw [if_pos rfl]
    show [D.v (.int .i64 v)] = [D.v (.int .i64 ((l.set j v).getD j 0))]
    simp [List.getD, h]
  · rw [if_neg e]
    show [D.v (.int .i64 (l.getD j 0))] = [D.v (.int .i64 ((l.set i v).getD j 0))]
    simp [List.getD, List.getElem?_set_ne (Ne.symm e)]
def backM (m : HartM) : HartM := { m with pc := m.csr.getD 2 0, csr := m.csr.set 0 (IntKind.i64.wrap (2 + IntKind.i64.wrap (Int.tdiv (m.csr.getD 0 0) 2))) }
end Go.Proofs.YtojaakpnpdnbhaaDoor.L

/- What the functions compute that send a machine back from a trap: contracts. -/
set_option linter.unusedVariables false
set_option linter.unusedSimpArgs false
set_option maxRecDepth 100000
namespace Go.Proofs.YtojaakpnpdnbhaaDoor.L
open Go.RowKit
def backHart (m : HartM) : Int × HartM := if hFault m = 0 then (0, backM m) else (hFault m, hartZ)
end Go.Proofs.YtojaakpnpdnbhaaDoor.L

/- What the functions compute that turn a machine that is pointed at: contracts. -/
set_option linter.unusedVariables false
set_option linter.unusedSimpArgs false
set_option maxRecDepth 100000
namespace Go.Proofs.YtojaakpnpdnbhaaDoor.L
open Go.RowKit
/-- a store into a row of whole numbers, at one place -/
theorem set_at {l : List Int} {i j : Nat} {v : Int} {x : List D} (h : x = intsF l j) (hi : i < l.length) : (if j = i then splice x 0 [D.v (.int .i64 v)] else x) = intsF (l.set i v) j := by
  rw [h]; exact set_row l i v hi j
def trapM (m : HartM) (c t : Int) : HartM := { m with pc := m.csr.getD 1 0, csr := (((m.csr.set 2 m.pc).set 3 c).set 4 t).set 0 (IntKind.i64.wrap (Int.tmod (m.csr.getD 0 0) 2 * 2)), waiting := false }
def trapHart (m : HartM) (c t : Int) : Int × HartM := if hFault m = 0 then (bif !inR c 0 31 || !isW t then (3, hartZ) else (0, trapM m c t)) else (hFault m, hartZ)
theorem upto_ints (a b : List Int) (i : Nat) : upto a.length (intsF a) (intsF b) i = intsF (a ++ b) i := by
  unfold upto
  show _ = [D.v (.int .i64 ((a ++ b).getD i 0))]
  split
  · rename_i h; show [D.v (.int .i64 (a.getD i 0))] = _; simp [List.getD, List.getElem?_append, h]
  · rename_i h; show [D.v (.int .i64 (b.getD (i - a.length) 0))] = _; simp [List.getD, List.getElem?_append, h]
def feedHart (m : HartM) (l : List Int) : Int × HartM :=
  if hFault m = 0 then (bif !l.all isW then (3, hartZ) else bif decide ((m.inp.length : Int) + l.length > 40) then (2, hartZ) else (0, { m with inp := m.inp ++ l })) else (hFault m, hartZ)
end Go.Proofs.YtojaakpnpdnbhaaDoor.L

/- What the functions compute that set a number of a machine: contracts. -/
set_option linter.unusedVariables false
set_option linter.unusedSimpArgs false
set_option maxRecDepth 100000
namespace Go.Proofs.YtojaakpnpdnbhaaDoor.L
open Go.RowKit
def wrapW (n : Int) : Int := n % 4294967296
theorem wrapW_le (n : Int) : 0 ≤ wrapW n ∧ wrapW n ≤ 4294967295 := by unfold wrapW; omega
theorem and_mask (a : Int) : IntKind.i64.wrap (BitVec.ofInt IntKind.i64.bits a &&& BitVec.ofInt IntKind.i64.bits 4294967295).toNat = wrapW a := by
  have e : (BitVec.ofInt IntKind.i64.bits a &&& BitVec.ofInt IntKind.i64.bits 4294967295).toNat = (a % 18446744073709551616).toNat % 4294967296 := by
    rw [BitVec.toNat_and, BitVec.toNat_ofInt, BitVec.toNat_ofInt]
    show (a % 18446744073709551616).toNat &&& (2 ^ 32 - 1) = _
    rw [Nat.and_two_pow_sub_one_eq_mod]
  rw [e]
  unfold wrapW
  have : (((a % 18446744073709551616).toNat % 4294967296 : Nat) : Int) = a % 4294967296 := by omega
  rw [this]
  exact wrap_i64 _ (by omega) (by omega)
theorem wrap_u32 (a : Int) : IntKind.u32.wrap a = a % 4294967296 := by
  simp [IntKind.wrap, IntKind.bits, IntKind.signed]
def setCsrL (m : HartM) (k v : Int) : HartM := { m with csr := m.csr.set k.toNat v }
def setM (m : HartM) (k w0 : Int) : HartM :=
  if k = 0 then setCsrL m k (Int.tmod (wrapW w0) 4) else if k = 7 then setCsrL m k (Int.tmod (wrapW w0) 8) else if k = 10 then setCsrL m k (if wrapW w0 ≤ 8 then wrapW w0 else 0)
  else if k = 6 then { m with rung := m.rung && decide (Int.tmod (wrapW w0) 4 < 2) } else if k = 8 then m else setCsrL m k (wrapW w0)
def setCsr (m : HartM) (k w : Int) : Int × HartM := if hFault m = 0 then (bif !inR k 0 10 then (3, hartZ) else (0, setM m k w)) else (hFault m, hartZ)
end Go.Proofs.YtojaakpnpdnbhaaDoor.L

/- What the functions compute that draw numbers out of a code's bytes: contracts. -/
set_option linter.unusedVariables false
set_option linter.unusedSimpArgs false
set_option maxRecDepth 100000
namespace Go.Proofs.YtojaakpnpdnbhaaDoor.L
open Go.RowKit
abbrev bytesD (c : List Int) : D := .l c.length fun i => [.v (.int .u8 (c.getD i 0))]
structure okCode (c : List Int) : Prop where
  len : c.length ≤ 1048576
  byte : ∀ x ∈ c, 0 ≤ x ∧ x ≤ 255
theorem okCode.at {c : List Int} (h : okCode c) (i : Nat) : 0 ≤ c.getD i 0 ∧ c.getD i 0 ≤ 255 := by
  rcases Nat.lt_or_ge i c.length with hi | hi
  · have : c.getD i 0 = c[i] := by simp [List.getD, List.getElem?_eq_getElem hi]
    rw [this]; exact h.byte _ (List.getElem_mem hi)
  · simp [List.getD, List.getElem?_eq_none hi]
def nxRaw (c : List Int) (p n : Int) : Int :=
  if (c.length : Int) = 0 then p * 7 else
  if n > 200 then (c.getD (Int.tmod p c.length).toNat 0 + Int.tdiv p c.length * 37) * 251 + c.getD (Int.tmod (p + 1) c.length).toNat 0 * 13 + p
  else c.getD (Int.tmod p c.length).toNat 0 + Int.tdiv p c.length * 37
def nx (c : List Int) (p n : Int) : Int := if n < 1 then 0 else Int.tmod (nxRaw c p n) n
theorem raw1 {b q : Int} (h1 : 0 ≤ b) (h2 : b ≤ 255) (h3 : 0 ≤ q) (h4 : q ≤ 1099511627776) : IntKind.i64.wrap (IntKind.i64.wrap b + IntKind.i64.wrap (IntKind.i64.wrap q * 37)) = b + q * 37 := by
  simp only [IntKind.wrap_i64]; omega
theorem tdiv_le {a b : Int} (h1 : 0 ≤ a) (h2 : 0 < b) : 0 ≤ Int.tdiv a b ∧ Int.tdiv a b ≤ a := ⟨Int.tdiv_nonneg h1 (by omega), Int.tdiv_le_self b h1⟩
theorem tmod_in {a b : Int} (h1 : 0 ≤ a) (h2 : 0 < b) : 0 ≤ Int.tmod a b ∧ Int.tmod a b < b := ⟨Int.tmod_nonneg b h1, Int.tmod_lt_of_pos a h2⟩
theorem nxRaw_le {c : List Int} (hc : okCode c) {p : Int} (h1 : 0 ≤ p) (n : Int) : 0 ≤ nxRaw c p n := by
  have a := hc.at (Int.tmod p c.length).toNat
  have b := hc.at (Int.tmod (p + 1) c.length).toNat
  have d : 0 ≤ Int.tdiv p c.length := Int.tdiv_nonneg h1 (Int.natCast_nonneg _)
  unfold nxRaw
  split
  · omega
  · split <;> omega
theorem nx_in {c : List Int} (hc : okCode c) {p : Int} (h1 : 0 ≤ p) {n : Int} (hn : 1 ≤ n) : 0 ≤ nx c p n ∧ nx c p n < n := by
  unfold nx
  rw [if_neg (by omega)]
  exact tmod_in (nxRaw_le hc h1 n) (by omega)
/-- what is picked -/
def pk (c : List Int) (p : Int) (l : List Int) : Int := l.getD (nx c p l.length).toNat 0
theorem pk_mem {c : List Int} (hc : okCode c) {p : Int} (hp : 0 ≤ p) {l : List Int} (hl : l ≠ []) : pk c p l ∈ l := by
  have h1 : 1 ≤ (l.length : Int) := by cases l with | nil => exact absurd rfl hl | cons => simp; omega
  have h2 := nx_in hc hp h1
  have h3 : (nx c p l.length).toNat < l.length := by omega
  unfold pk
  simp [List.getD, List.getElem?_eq_getElem h3]
/-- the elements of a literal -/
abbrev litD (l : List Int) (i : Nat) : List D := (l.map fun v => [D.v (.int .i64 v)]).getD i []
theorem litD_eq (l : List Int) (i : Nat) (h : i < l.length) : litD l i = intsF l i := by
  show _ = [D.v (.int .i64 (l.getD i 0))]
  simp [litD, List.getD, h]
attribute [irreducible] nx pk
def wd (c : List Int) (p : Int) : Int := pk c (p + 1 + 1 + 1 + 1) [nx c p 90, nx c (p + 1) 9, IntKind.i64.wrap (4294967295 - nx c (p + 1 + 1) 9), 2147483648, 2147483647, 0, IntKind.i64.wrap (nx c (p + 1 + 1 + 1) 60000 * 70000)]
attribute [irreducible] wd
def wi (c : List Int) (p : Int) : Int := pk c (p + 5 + 5 + 5) [wd c p, wd c (p + 5), wd c (p + 5 + 5), -1, -9223372036854775808, 9223372036854775807, 4294967296, -5]
attribute [irreducible] wi
end Go.Proofs.YtojaakpnpdnbhaaDoor.L

/- What the law functions compute on pages and lonely machines: contracts. -/
set_option linter.unusedVariables false
set_option linter.unusedSimpArgs false
set_option maxRecDepth 100000
namespace Go.Proofs.YtojaakpnpdnbhaaDoor.L
open Go.RowKit
abbrev pageLV (p : PageM) : LV := .agg [di p.to, di p.kinds]
theorem drop_consG {α : Type} (d : α) (l : List α) (i : Nat) (h : i < l.length) : l.drop i = l.getD i d :: l.drop (i + 1) :=
  (List.drop_eq_getElem_cons h).trans (by rw [show l[i] = l.getD i d by simp [List.getD, List.getElem?_eq_getElem h]])
end Go.Proofs.YtojaakpnpdnbhaaDoor.L

/- The law function over a machine that is rung answers true. -/
set_option linter.unusedVariables false
set_option linter.unusedSimpArgs false
set_option maxRecDepth 100000
namespace Go.Proofs.YtojaakpnpdnbhaaDoor.L
open Go.RowKit
theorem few_of_sz {m : HartM} (h : decide (hSz m 1048576 < 0) = false) : m.few := by
  simp only [decide_eq_false_iff_not] at h
  unfold hSz at h
  simp only at h
  split at h
  · omega
  · rename_i h2
    exact ⟨by omega, by omega, by omega, by omega⟩
theorem hartZ_few : hartZ.few ∧ hartZ.small := ⟨⟨by decide, by decide, by decide, by decide⟩, ⟨by decide, by decide, by decide, by decide⟩⟩
theorem ringHart_few (m : HartM) (hf : m.few) (hs : m.small) : (ringHart m).2.few ∧ (ringHart m).2.small := by
  unfold ringHart
  split
  · exact ⟨⟨hf.regs, hf.csr, hf.inp, hf.out⟩, ⟨hs.regs, hs.csr, hs.inp, hs.out⟩⟩
  · exact hartZ_few
end Go.Proofs.YtojaakpnpdnbhaaDoor.L

/- What the functions that look at a lonely machine compute: contracts. -/
set_option linter.unusedVariables false
set_option linter.unusedSimpArgs false
set_option maxRecDepth 100000
namespace Go.Proofs.YtojaakpnpdnbhaaDoor.L
open Go.RowKit
theorem LVLe.pre (xs ys : List D) : LVLe (.dptr (xs ++ ys)) (.dptr xs) := fun W F v hv => by
  cases hv with
  | dptr vs hs hI hc hr =>
    refine .dptr vs hs hI (fun j hj => hc j (by simp; omega)) (fun j hj => ?_)
    have := hr j (by simp; omega)
    have e : (xs ++ ys).getD j (.v undef) = xs.getD j (.v undef) := by simp [List.getD, List.getElem?_append, hj]
    rwa [e] at this
structure SoloM where
  hart : HartM
  pages : List PageM
  mem : List Int
  deriving DecidableEq
abbrev soloD (x : SoloM) : List D := [ints x.hart.regs, dI x.hart.pc, ints x.hart.csr, dB x.hart.halted, dB x.hart.waiting, dB x.hart.rung, dI x.hart.done, ints x.hart.inp, ints x.hart.out, Go.Proofs.YtojaakpnpdnbhaaDoor.L.pages x.pages, ints x.mem]
abbrev soloLV (x : SoloM) : LV := .agg [.d (ints x.hart.regs), di x.hart.pc, .d (ints x.hart.csr), dv (.bool x.hart.halted), dv (.bool x.hart.waiting), dv (.bool x.hart.rung), di x.hart.done, .d (ints x.hart.inp), .d (ints x.hart.out), .d (Go.Proofs.YtojaakpnpdnbhaaDoor.L.pages x.pages), .d (ints x.mem)]
structure SoloM.small (x : SoloM) : Prop where
  hart : x.hart.small
  pages : x.pages.length * 16 ≤ 140737488355328
  mem : x.mem.length * 8 ≤ 140737488355328
def soloFault (x : SoloM) : Int := if hFault x.hart = 0 then (if pagesFault x.pages 8 = 0 then (bif (memFault x.mem != 0) || ((x.mem.length : Int) != 64) then 1 else 0) else pagesFault x.pages 8) else hFault x.hart
theorem hSz_le (m : HartM) (h : ¬ hSz m 1048576 < 0) : 0 ≤ hSz m 1048576 ∧ hSz m 1048576 ≤ 1048576 := by
  refine ⟨by omega, ?_⟩
  unfold hSz
  simp only
  split <;> omega
end Go.Proofs.YtojaakpnpdnbhaaDoor.L

/- The law function over what is wrong with a lonely machine answers true; how one is read. -/
set_option linter.unusedVariables false
set_option linter.unusedSimpArgs false
set_option maxRecDepth 100000
namespace Go.Proofs.YtojaakpnpdnbhaaDoor.L
open Go.RowKit Go.ChangeShapes Go.WideShapes Go.ChangeAt
structure SoloM.ok (x : SoloM) : Prop where
  hart : x.hart.ok
  pages : x.pages.length * 16 ≤ reachBytes ∧ ∀ p ∈ x.pages, ok64 p.to ∧ ok64 p.kinds
  mem : okInts x.mem
theorem SoloM.ok.small {x : SoloM} (h : x.ok) : x.small := by
  have e := reach_eq
  have a := h.pages.1
  have b := h.mem.1
  exact ⟨h.hart.small, by omega, by omega⟩
end Go.Proofs.YtojaakpnpdnbhaaDoor.L

/- What the functions compute that read and write a machine's device page: contracts. -/
set_option linter.unusedVariables false
set_option linter.unusedSimpArgs false
set_option maxRecDepth 100000
namespace Go.Proofs.YtojaakpnpdnbhaaDoor.L
open Go.RowKit
theorem drop_ints (l : List Int) (k i : Nat) : intsF l (k + i) = intsF (l.drop k) i := by
  show [D.v (.int .i64 (l.getD (k + i) 0))] = [D.v (.int .i64 ((l.drop k).getD i 0))]
  simp [List.getD, List.getElem?_drop]
def readV (m : HartM) (k : Int) : Int := if k = 1 then m.inp.getD 0 0 else if k = 2 then m.done else if k = 3 then m.csr.getD 9 0 else if k = 4 then pend m else if k = 6 then m.inp.length else 0
def readM (m : HartM) (k : Int) : HartM := if k = 1 then { m with inp := m.inp.drop 1 } else m
theorem readM_ne {m : HartM} {k : Int} (h : k ≠ 1) : readM m k = m := if_neg h
def writeV (k w : Int) : Int := if k = 5 then wrapW w else -1
def writeM (m : HartM) (k w : Int) : HartM := if k = 0 then (if m.out.length < 40 then { m with out := m.out ++ [wrapW w] } else m) else if k = 3 then setM m 9 w else if k = 4 then setM m 6 w else m
theorem wrapW_wrapW (w : Int) : wrapW (wrapW w) = wrapW w := by unfold wrapW; omega
theorem setM_wrapW (m : HartM) (k w : Int) : setM m k (wrapW w) = setM m k w := by unfold setM; rw [wrapW_wrapW]
theorem app_ints (l : List Int) (w : Int) (i : Nat) : upto l.length (intsF l) (fun i => ([[D.v (.int .i64 w)]] : List (List D)).getD i []) i = intsF (l ++ [w]) i ∨ l.length + 1 ≤ i := by
  rcases Nat.lt_or_ge i (l.length + 1) with h | h
  · refine .inl ?_
    unfold upto
    show _ = [D.v (.int .i64 ((l ++ [w]).getD i 0))]
    split
    · rename_i h; show [D.v (.int .i64 (l.getD i 0))] = _; simp [List.getD, List.getElem?_append, h]
    · have : i = l.length := by omega
      subst this
      simp [List.getD]
  · exact .inr h
theorem app_ints' (l : List Int) (w : Int) (i : Nat) (h : i < l.length + 1) : upto l.length (intsF l) (fun i => ([[D.v (.int .i64 w)]] : List (List D)).getD i []) i = intsF (l ++ [w]) i := (app_ints l w i).resolve_right (by omega)
theorem one_len (v : Int) (i : Nat) (hi : i < 1) : (([[D.v (.int .i64 v)]] : List (List D)).getD i []).length = 1 := by
  obtain rfl : i = 0 := by omega
  rfl
end Go.Proofs.YtojaakpnpdnbhaaDoor.L

/- What the functions compute that tell the words of a page: contracts. -/
set_option linter.unusedVariables false
set_option linter.unusedSimpArgs false
set_option maxRecDepth 100000
namespace Go.Proofs.YtojaakpnpdnbhaaDoor.L
open Go.RowKit
def pageW (m : List Int) (p : Int) : List Int := (m.drop (p * 8).toNat).take 8
theorem pageW_len (m : List Int) (p : Int) (hp : 0 ≤ p) (h : (p + 1) * 8 ≤ m.length) : (pageW m p).length = 8 := by
  unfold pageW
  rw [List.length_take, List.length_drop]
  omega
theorem pageW_D (m : List Int) (p : Int) (hp : 0 ≤ p) (h : (p + 1) * 8 ≤ m.length) : DLe (.l (((p + 1) * 8 - p * 8)).toNat (fun i => intsF m ((p * 8).toNat + i))) (ints (pageW m p)) := by
  refine DLe.l (by rw [pageW_len m p hp h]; omega) (fun i hi => ?_)
  show [D.v (.int .i64 (m.getD ((p * 8).toNat + i) 0))] = [D.v (.int .i64 ((pageW m p).getD i 0))]
  unfold pageW
  have hi8 : i < 8 := by omega
  simp [List.getD, List.getElem?_take, hi8, List.getElem?_drop]
def wordsL (m : List Int) (ps : List Int) : List Int := ps.flatMap (pageW m)
theorem wordsL_len (m : List Int) : ∀ (ps : List Int), (∀ p ∈ ps, 0 ≤ p ∧ (p + 1) * 8 ≤ m.length) → (wordsL m ps).length = 8 * ps.length
  | [], _ => rfl
  | p :: ps, h => by
    have h1 := h p (by simp)
    have h2 := wordsL_len m ps (fun q hq => h q (by simp [hq]))
    unfold wordsL at h2 ⊢
    rw [List.flatMap_cons, List.length_append, pageW_len m p h1.1 h1.2, h2]
    simp; omega
theorem upto_app (a b : List Int) (g : Nat → List D) (hg : ∀ j, j < b.length → g j = intsF b j) (i : Nat) (h : i < a.length + b.length) : upto a.length (intsF a) g i = intsF (a ++ b) i := by
  rw [← upto_ints]
  unfold upto
  split
  · rfl
  · exact hg _ (by omega)
end Go.Proofs.YtojaakpnpdnbhaaDoor.L

/- What the functions compute that walk through pages: contracts. -/
set_option linter.unusedVariables false
set_option linter.unusedSimpArgs false
set_option maxRecDepth 100000
namespace Go.Proofs.YtojaakpnpdnbhaaDoor.L
open Go.RowKit
/-! ## the first place in a list for which something holds -/
def idxG {α : Type} (p : α → Bool) (l : List α) (i : Nat) : Int := bif (l.drop i).any p then (((l.drop i).findIdx p + i : Nat) : Int) else -1
theorem getD_at {α : Type} {l : List α} {i : Nat} (d : α) (h : i < l.length) : l.getD i d = l[i] := by simp [List.getD, List.getElem?_eq_getElem h]
theorem drop_anyG {α : Type} (d : α) (l : List α) (p : α → Bool) (i : Nat) (h : i < l.length) : (l.drop i).any p = (p (l.getD i d) || (l.drop (i + 1)).any p) := by
  rw [List.drop_eq_getElem_cons h, List.any_cons, getD_at d h]
theorem idxG_hit {α : Type} (d : α) {l : List α} {p : α → Bool} {i : Nat} (h : i < l.length) (hp : p (l.getD i d) = true) : idxG p l i = i := by
  unfold idxG
  rw [drop_anyG d l p i h, hp, List.drop_eq_getElem_cons h]
  rw [getD_at d h] at hp
  rw [List.findIdx_cons, hp]
  simp
theorem idxG_miss {α : Type} (d : α) {l : List α} {p : α → Bool} {i : Nat} (h : i < l.length) (hp : p (l.getD i d) = false) : idxG p l i = idxG p l (i + 1) := by
  unfold idxG
  rw [drop_anyG d l p i h, hp, Bool.false_or, List.drop_eq_getElem_cons h]
  rw [getD_at d h] at hp
  cases (List.drop (i + 1) l).any p with
  | false => rfl
  | true =>
    simp only [cond_true, List.findIdx_cons, hp, cond_false]
    omega
theorem idxG_end {α : Type} {l : List α} {p : α → Bool} {i : Nat} (h : l.length ≤ i) : idxG p l i = -1 := by
  unfold idxG
  rw [List.drop_eq_nil_of_le h]; rfl
theorem idxG_any {α : Type} (l : List α) (p : α → Bool) : decide (idxG p l 0 ≥ 0) = l.any p := by
  unfold idxG
  rw [List.drop_zero]
  cases l.any p <;> simp
/-! ## where a place leads -/
abbrev andI (a b : Int) : Int := IntKind.i64.wrap (BitVec.ofInt 64 a &&& BitVec.ofInt 64 b).toNat
def pageAt (l : List PageM) (at_ : Int) : PageM := l.getD (IntKind.i64.wrap (Int.tdiv at_ 8)).toNat ⟨0, 0⟩
/-- -1: nowhere -/
def walkP (l : List PageM) (at_ kind : Int) : Int :=
  bif !inR at_ 0 63 then -1 else bif decide ((pageAt l at_).to < 0) || (andI (pageAt l at_).kinds kind == 0) then -1 else IntKind.i64.wrap (IntKind.i64.wrap ((pageAt l at_).to * 8) + Int.tmod at_ 8)
theorem div8 {a : Int} (h : 0 ≤ a) (h2 : a ≤ 63) : IntKind.i64.wrap (Int.tdiv a 8) = Int.tdiv a 8 ∧ 0 ≤ Int.tdiv a 8 ∧ Int.tdiv a 8 ≤ 7 := by
  have h3 : Int.tdiv a 8 = a / 8 := Int.tdiv_eq_ediv_of_nonneg h
  rw [h3]
  exact ⟨wrap_i64 _ (by omega) (by omega), by omega, by omega⟩
def kindC (k : Int) : Int := if k = 1 then 7 else if k = 2 then 8 else if k = 4 then 9 else 0
def kindOk (k : Int) : Bool := (k == 1) || ((k == 2) || (k == 4))
theorem kindC_ok (k : Int) : (kindC k == 0) = !kindOk k := by
  unfold kindC kindOk
  by_cases h1 : k = 1
  · subst h1; rfl
  by_cases h2 : k = 2
  · subst h2; rfl
  by_cases h4 : k = 4
  · subst h4; rfl
  simp [h1, h2, h4]
/-- where a place leads, with a code -/
def walkI (l : List PageM) (at_ kind : Int) : Int × Int := if walkP l at_ kind < 0 then (kindC kind, 0) else (0, walkP l at_ kind)
structure PgsOK (l : List PageM) (top : Int) : Prop where
  len : l.length = 8
  at_ : ∀ p ∈ l, -1 ≤ p.to ∧ p.to < top ∧ 0 ≤ p.kinds ∧ p.kinds ≤ 7
theorem PgsOK.get {l : List PageM} {top : Int} (h : PgsOK l top) {i : Nat} (hi : i < 8) : -1 ≤ (l.getD i ⟨0, 0⟩).to ∧ (l.getD i ⟨0, 0⟩).to < top := by
  rw [getD_at _ (by rw [h.len]; exact hi)]
  have := h.at_ _ (List.getElem_mem (by rw [h.len]; exact hi : i < l.length))
  exact ⟨this.1, this.2.1⟩
theorem walk_get {l : List PageM} {top at_ : Int} (h : PgsOK l top) (ht : top ≤ 24) (ha : inR at_ 0 63 = true) (h0 : ¬ (pageAt l at_).to < 0) :
    IntKind.i64.wrap (IntKind.i64.wrap ((pageAt l at_).to * 8) + Int.tmod at_ 8) = (pageAt l at_).to * 8 + Int.tmod at_ 8 ∧ 0 ≤ (pageAt l at_).to * 8 + Int.tmod at_ 8 ∧ (pageAt l at_).to * 8 + Int.tmod at_ 8 < top * 8 := by
  have h2 := inR_iff.1 ha
  obtain ⟨e1, e2, e3⟩ := div8 h2.1 h2.2
  have h3 : Int.tmod at_ 8 = at_ % 8 := Int.tmod_eq_emod_of_nonneg h2.1
  have h4 : (pageAt l at_).to < top := (h.get (by rw [e1]; omega)).2
  have e4 : IntKind.i64.wrap ((pageAt l at_).to * 8) = (pageAt l at_).to * 8 := wrap_i64 _ (by omega) (by omega)
  rw [e4, h3]
  exact ⟨wrap_i64 _ (by omega) (by omega), by omega, by omega⟩
end Go.Proofs.YtojaakpnpdnbhaaDoor.L

/- Policies: what the law functions compute on them (to, size, equality): contracts. -/
set_option linter.unusedVariables false
set_option linter.unusedSimpArgs false
set_option maxRecDepth 100000
namespace Go.Proofs.YtojaakpnpdnbhaaDoor.L
open Go.RowKit
structure LaneM where
  frm : Int
  to : Int
  page : Int
  af : Int
  at_ : Int
  deriving DecidableEq
abbrev laneD (p : LaneM) : List D := [dI p.frm, dI p.to, dI p.page, dI p.af, dI p.at_]
abbrev laneLV (p : LaneM) : LV := .agg [di p.frm, di p.to, di p.page, di p.af, di p.at_]
abbrev lanesF (l : List LaneM) (i : Nat) : List D := laneD (l.getD i ⟨0, 0, 0, 0, 0⟩)
abbrev lanes (l : List LaneM) : D := .l l.length (lanesF l)
abbrev oLanes (l : List LaneM) : RC := .own 56 5 l.length (lanesF l)
theorem c_laws_toLane (p : LaneM) : FnOK Tryd.prog 32 [laneLV p] (.r (.agg [.v (.int .i64 p.frm), .v (.int .i64 p.to), .v (.int .i64 p.page), .v (.int .i64 p.af), .v (.int .i64 p.at_)])) := by
  refine fn_of lv32 Tryd.func32 rfl rfl (by kernel_rfl) rfl ?_
  exact ⟨⟨rfl, rfl, rfl, rfl, rfl, trivial⟩, rfl⟩
theorem c_laws_toLaneS (l : List LaneM) (hl : l.length * 40 ≤ 140737488355328) : FnOK Tryd.prog 17 [.d (lanes l)] (.r (.one (oLanes l))) := by
  refine fn_of lv17 Tryd.func17 rfl rfl (by kernel_rfl) rfl ?_
  refine ask_intro ⟨rfl, by omega, by show (l.length : Int) * 40 ≤ 140737488355328; omega, by omega⟩ ?_
  refine ⟨{ i : Nat // i ≤ l.length }, fun i => ⟨frL [(0, .d (lanes l)), (3, .row 96), (4, di i.1)], hpL [(96, .row 56 5 l.length fun j => if j < i.1 then lanesF l j else laneD ⟨0, 0, 0, 0, 0⟩)], 97, 0⟩, fun i => l.length - i.1, ⟨0, by omega⟩,
    le_of [(96, 4160)] rfl rfl rfl rfl (tellHp_row rfl rfl rfl (fun i hi => rfl) tellHp_nil) (tellFr_d rfl (DLe.refl _) (tellFr_row rfl rfl (tellFr_v rfl rfl trivial))), ?_⟩
  rintro ⟨i, hi⟩
  refine bsplit_intro (fun h => ?_) (fun h => ?_)
  · have h : i < l.length := by simp at h; exact h
    refine ask_intro ⟨by omega, by simp; omega, rfl⟩ ?_
    refine .inl ⟨_, _, rfl, c_laws_toLane (l.getD i ⟨0, 0, 0, 0, 0⟩), rfl, ?_⟩
    refine ask_intro ⟨by omega, by simp; omega⟩ ?_
    refine ask_intro (by show i < l.length; exact h) ?_
    refine ⟨⟨i + 1, by omega⟩, le_of [(96, 96)] rfl rfl rfl rfl (tellHp_row rfl rfl rfl (fun j hj => ?_) tellHp_nil) (tellFr_d rfl (DLe.refl _) (tellFr_row rfl rfl (tellFr_v rfl (congrArg (Value.int .i64) (?_ : IntKind.i64.wrap ((i : Int) + 1) = ((i + 1 : Nat) : Int))) trivial))), ?_⟩
    · show (if j = i then splice (if j < i then lanesF l j else laneD ⟨0, 0, 0, 0, 0⟩) 0 (laneD (l.getD i ⟨0, 0, 0, 0, 0⟩)) else if j < i then lanesF l j else laneD ⟨0, 0, 0, 0, 0⟩) = if j < i + 1 then lanesF l j else laneD ⟨0, 0, 0, 0, 0⟩
      by_cases h1 : j = i
      · subst h1
        rw [if_pos rfl, if_neg (by omega), if_pos (by omega)]
        rfl
      · rw [if_neg h1]
        by_cases h2 : j < i
        · rw [if_pos h2, if_pos (by omega)]
        · rw [if_neg h2, if_neg (by omega)]
    · exact wrap_i64 (i + 1) (by omega) (by omega)
    · show l.length - (i + 1) < l.length - i
      omega
  · simp at h
    refine ⟨⟨⟨rfl, rfl, rfl, fun j hj => ⟨?_, rfl⟩⟩, trivial⟩, rfl⟩
    show (if j < i then lanesF l j else _) = _
    rw [if_pos (by omega)]
theorem c_laws_szLaneS (l : List LaneM) (q : Int) (hq : -9223372036854775808 ≤ q - l.length) (hq2 : q - l.length < 9223372036854775808) : FnOK Tryd.prog 11 [.d (lanes l), di q] (ri (if q - l.length < 0 then -1 else q - l.length)) := by
  refine fn_of lv11 Tryd.func11 rfl rfl (by kernel_rfl) rfl ?_
  refine bsplit_intro (fun h => ?_) (fun h => ?_)
  · refine ⟨⟨congrArg (Value.int .i64) (?_ : (-1 : Int) = _), trivial⟩, rfl⟩
    rw [wrap_i64 _ hq hq2] at h
    simp only [decide_eq_true_eq] at h
    rw [if_pos h]
  · refine ⟨⟨congrArg (Value.int .i64) (?_ : IntKind.i64.wrap (q - l.length) = _), trivial⟩, rfl⟩
    rw [wrap_i64 _ hq hq2] at h ⊢
    simp only [decide_eq_false_iff_not] at h
    rw [if_neg h]
theorem c_laws_eqLane (p q : LaneM) : FnOK Tryd.prog 42 [laneLV p, laneLV q] (rb (decide (p = q))) := by
  refine fn_of lv42 Tryd.func42 rfl rfl (by kernel_rfl) rfl ?_
  repeat' (refine bsplit_intro (fun h => ?_) (fun h => ?_))
  all_goals refine ⟨⟨congrArg Value.bool ?_, trivial⟩, rfl⟩
  all_goals (obtain ⟨a0, a1, a2, a3, a4⟩ := p; obtain ⟨b0, b1, b2, b3, b4⟩ := q; simp_all)
theorem c_laws_eqLaneS (l m : List LaneM) (hl : l.length ≤ 9223372036854775807) : FnOK Tryd.prog 23 [.d (lanes l), .d (lanes m)] (rb (decide (l = m))) := by
  refine fn_of lv23 Tryd.func23 rfl rfl (by kernel_rfl) rfl ?_
  refine bsplit_intro (fun h => ?_) (fun h => ?_)
  · refine ⟨⟨congrArg Value.bool (?_ : false = _), trivial⟩, rfl⟩
    simp at h
    symm
    rw [decide_eq_false_iff_not]
    rintro rfl
    exact h rfl
  have hlen : l.length = m.length := by simp at h; omega
  refine ⟨{ i : Nat // i ≤ l.length ∧ decide (l.drop i = m.drop i) = decide (l = m) }, fun i => ⟨frL [(0, .d (lanes l)), (1, .d (lanes m)), (5, di i.1)], hpL [], 0, 0⟩, fun i => l.length - i.1, ⟨0, by simp⟩,
    le_of [] rfl rfl rfl rfl trivial (tellFr_d rfl (DLe.refl _) (tellFr_d rfl (DLe.refl _) (tellFr_v rfl rfl trivial))), ?_⟩
  rintro ⟨i, hi, hall⟩
  refine bsplit_intro (fun h => ?_) (fun h => ?_)
  · have h : i < l.length := by simp at h; exact h
    rw [drop_consG ⟨0, 0, 0, 0, 0⟩ l i h, drop_consG ⟨0, 0, 0, 0, 0⟩ m i (by omega)] at hall
    refine ask_intro ⟨by omega, by simp; omega, rfl⟩ ?_
    refine ask_intro ⟨by omega, by simp; omega, rfl⟩ ?_
    refine .inl ⟨_, _, rfl, c_laws_eqLane (l.getD i ⟨0, 0, 0, 0, 0⟩) (m.getD i ⟨0, 0, 0, 0, 0⟩), rfl, ?_⟩
    refine chk_intro (by kernel_rfl) ?_
    refine bsplit_intro (fun h2 => ?_) (fun h2 => ?_)
    · refine ⟨⟨congrArg Value.bool (?_ : false = _), trivial⟩, rfl⟩
      have h2 : ¬ l.getD i ⟨0, 0, 0, 0, 0⟩ = m.getD i ⟨0, 0, 0, 0, 0⟩ := by simpa only [Bool.not_eq_true', decide_eq_false_iff_not] using h2
      rw [← hall]
      symm
      rw [decide_eq_false_iff_not]
      intro e
      exact h2 (List.cons.inj e).1
    · have h2 : l.getD i ⟨0, 0, 0, 0, 0⟩ = m.getD i ⟨0, 0, 0, 0, 0⟩ := by simpa only [Bool.not_eq_false', decide_eq_true_eq] using h2
      rw [h2] at hall
      refine ⟨⟨i + 1, by omega, by rw [← hall]; simp⟩, le_of [] rfl rfl rfl rfl trivial (tellFr_d rfl (DLe.refl _) (tellFr_d rfl (DLe.refl _) (tellFr_v rfl (congrArg (Value.int .i64) (?_ : IntKind.i64.wrap ((i : Int) + 1) = ((i + 1 : Nat) : Int))) trivial))), by show l.length - (i + 1) < l.length - i; omega⟩
      exact wrap_i64 (i + 1) (by omega) (by omega)
  · refine ⟨⟨congrArg Value.bool (?_ : true = _), trivial⟩, rfl⟩
    simp at h
    rw [← hall, List.drop_eq_nil_of_le h, List.drop_eq_nil_of_le (by omega)]; simp
structure BellM where
  frm : Int
  to : Int
  deriving DecidableEq
abbrev bellD (p : BellM) : List D := [dI p.frm, dI p.to]
abbrev bellLV (p : BellM) : LV := .agg [di p.frm, di p.to]
abbrev bellsF (l : List BellM) (i : Nat) : List D := bellD (l.getD i ⟨0, 0⟩)
abbrev bells (l : List BellM) : D := .l l.length (bellsF l)
abbrev oBells (l : List BellM) : RC := .own 58 2 l.length (bellsF l)
theorem c_laws_toBell (p : BellM) : FnOK Tryd.prog 33 [bellLV p] (.r (.agg [.v (.int .i64 p.frm), .v (.int .i64 p.to)])) := by
  refine fn_of lv33 Tryd.func33 rfl rfl (by kernel_rfl) rfl ?_
  exact ⟨⟨rfl, rfl, trivial⟩, rfl⟩
theorem c_laws_toBellS (l : List BellM) (hl : l.length * 16 ≤ 140737488355328) : FnOK Tryd.prog 18 [.d (bells l)] (.r (.one (oBells l))) := by
  refine fn_of lv18 Tryd.func18 rfl rfl (by kernel_rfl) rfl ?_
  refine ask_intro ⟨rfl, by omega, by show (l.length : Int) * 16 ≤ 140737488355328; omega, by omega⟩ ?_
  refine ⟨{ i : Nat // i ≤ l.length }, fun i => ⟨frL [(0, .d (bells l)), (3, .row 96), (4, di i.1)], hpL [(96, .row 58 2 l.length fun j => if j < i.1 then bellsF l j else bellD ⟨0, 0⟩)], 97, 0⟩, fun i => l.length - i.1, ⟨0, by omega⟩,
    le_of [(96, 4160)] rfl rfl rfl rfl (tellHp_row rfl rfl rfl (fun i hi => rfl) tellHp_nil) (tellFr_d rfl (DLe.refl _) (tellFr_row rfl rfl (tellFr_v rfl rfl trivial))), ?_⟩
  rintro ⟨i, hi⟩
  refine bsplit_intro (fun h => ?_) (fun h => ?_)
  · have h : i < l.length := by simp at h; exact h
    refine ask_intro ⟨by omega, by simp; omega, rfl⟩ ?_
    refine .inl ⟨_, _, rfl, c_laws_toBell (l.getD i ⟨0, 0⟩), rfl, ?_⟩
    refine ask_intro ⟨by omega, by simp; omega⟩ ?_
    refine ask_intro (by show i < l.length; exact h) ?_
    refine ⟨⟨i + 1, by omega⟩, le_of [(96, 96)] rfl rfl rfl rfl (tellHp_row rfl rfl rfl (fun j hj => ?_) tellHp_nil) (tellFr_d rfl (DLe.refl _) (tellFr_row rfl rfl (tellFr_v rfl (congrArg (Value.int .i64) (?_ : IntKind.i64.wrap ((i : Int) + 1) = ((i + 1 : Nat) : Int))) trivial))), ?_⟩
    · show (if j = i then splice (if j < i then bellsF l j else bellD ⟨0, 0⟩) 0 (bellD (l.getD i ⟨0, 0⟩)) else if j < i then bellsF l j else bellD ⟨0, 0⟩) = if j < i + 1 then bellsF l j else bellD ⟨0, 0⟩
      by_cases h1 : j = i
      · subst h1
        rw [if_pos rfl, if_neg (by omega), if_pos (by omega)]
        rfl
      · rw [if_neg h1]
        by_cases h2 : j < i
        · rw [if_pos h2, if_pos (by omega)]
        · rw [if_neg h2, if_neg (by omega)]
    · exact wrap_i64 (i + 1) (by omega) (by omega)
    · show l.length - (i + 1) < l.length - i
      omega
  · simp at h
    refine ⟨⟨⟨rfl, rfl, rfl, fun j hj => ⟨?_, rfl⟩⟩, trivial⟩, rfl⟩
    show (if j < i then bellsF l j else _) = _
    rw [if_pos (by omega)]
theorem c_laws_szBellS (l : List BellM) (q : Int) (hq : -9223372036854775808 ≤ q - l.length) (hq2 : q - l.length < 9223372036854775808) : FnOK Tryd.prog 12 [.d (bells l), di q] (ri (if q - l.length < 0 then -1 else q - l.length)) := by
  refine fn_of lv12 Tryd.func12 rfl rfl (by kernel_rfl) rfl ?_
  refine bsplit_intro (fun h => ?_) (fun h => ?_)
  · refine ⟨⟨congrArg (Value.int .i64) (?_ : (-1 : Int) = _), trivial⟩, rfl⟩
    rw [wrap_i64 _ hq hq2] at h
    simp only [decide_eq_true_eq] at h
    rw [if_pos h]
  · refine ⟨⟨congrArg (Value.int .i64) (?_ : IntKind.i64.wrap (q - l.length) = _), trivial⟩, rfl⟩
    rw [wrap_i64 _ hq hq2] at h ⊢
    simp only [decide_eq_false_iff_not] at h
    rw [if_neg h]
theorem c_laws_eqBell (p q : BellM) : FnOK Tryd.prog 43 [bellLV p, bellLV q] (rb (decide (p = q))) := by
  refine fn_of lv43 Tryd.func43 rfl rfl (by kernel_rfl) rfl ?_
  repeat' (refine bsplit_intro (fun h => ?_) (fun h => ?_))
  all_goals refine ⟨⟨congrArg Value.bool ?_, trivial⟩, rfl⟩
  all_goals (obtain ⟨a0, a1⟩ := p; obtain ⟨b0, b1⟩ := q; simp_all)
theorem c_laws_eqBellS (l m : List BellM) (hl : l.length ≤ 9223372036854775807) : FnOK Tryd.prog 24 [.d (bells l), .d (bells m)] (rb (decide (l = m))) := by
  refine fn_of lv24 Tryd.func24 rfl rfl (by kernel_rfl) rfl ?_
  refine bsplit_intro (fun h => ?_) (fun h => ?_)
  · refine ⟨⟨congrArg Value.bool (?_ : false = _), trivial⟩, rfl⟩
    simp at h
    symm
    rw [decide_eq_false_iff_not]
    rintro rfl
    exact h rfl
  have hlen : l.length = m.length := by simp at h; omega
  refine ⟨{ i : Nat // i ≤ l.length ∧ decide (l.drop i = m.drop i) = decide (l = m) }, fun i => ⟨frL [(0, .d (bells l)), (1, .d (bells m)), (5, di i.1)], hpL [], 0, 0⟩, fun i => l.length - i.1, ⟨0, by simp⟩,
    le_of [] rfl rfl rfl rfl trivial (tellFr_d rfl (DLe.refl _) (tellFr_d rfl (DLe.refl _) (tellFr_v rfl rfl trivial))), ?_⟩
  rintro ⟨i, hi, hall⟩
  refine bsplit_intro (fun h => ?_) (fun h => ?_)
  · have h : i < l.length := by simp at h; exact h
    rw [drop_consG ⟨0, 0⟩ l i h, drop_consG ⟨0, 0⟩ m i (by omega)] at hall
    refine ask_intro ⟨by omega, by simp; omega, rfl⟩ ?_
    refine ask_intro ⟨by omega, by simp; omega, rfl⟩ ?_
    refine .inl ⟨_, _, rfl, c_laws_eqBell (l.getD i ⟨0, 0⟩) (m.getD i ⟨0, 0⟩), rfl, ?_⟩
    refine chk_intro (by kernel_rfl) ?_
    refine bsplit_intro (fun h2 => ?_) (fun h2 => ?_)
    · refine ⟨⟨congrArg Value.bool (?_ : false = _), trivial⟩, rfl⟩
      have h2 : ¬ l.getD i ⟨0, 0⟩ = m.getD i ⟨0, 0⟩ := by simpa only [Bool.not_eq_true', decide_eq_false_iff_not] using h2
      rw [← hall]
      symm
      rw [decide_eq_false_iff_not]
      intro e
      exact h2 (List.cons.inj e).1
    · have h2 : l.getD i ⟨0, 0⟩ = m.getD i ⟨0, 0⟩ := by simpa only [Bool.not_eq_false', decide_eq_true_eq] using h2
      rw [h2] at hall
      refine ⟨⟨i + 1, by omega, by rw [← hall]; simp⟩, le_of [] rfl rfl rfl rfl trivial (tellFr_d rfl (DLe.refl _) (tellFr_d rfl (DLe.refl _) (tellFr_v rfl (congrArg (Value.int .i64) (?_ : IntKind.i64.wrap ((i : Int) + 1) = ((i + 1 : Nat) : Int))) trivial))), by show l.length - (i + 1) < l.length - i; omega⟩
      exact wrap_i64 (i + 1) (by omega) (by omega)
  · refine ⟨⟨congrArg Value.bool (?_ : true = _), trivial⟩, rfl⟩
    simp at h
    rw [← hall, List.drop_eq_nil_of_le h, List.drop_eq_nil_of_le (by omega)]; simp
structure SlotM where
  guest : Int
  steps : Int
  deriving DecidableEq
abbrev slotD (p : SlotM) : List D := [dI p.guest, dI p.steps]
abbrev slotLV (p : SlotM) : LV := .agg [di p.guest, di p.steps]
abbrev slotsF (l : List SlotM) (i : Nat) : List D := slotD (l.getD i ⟨0, 0⟩)
abbrev slots (l : List SlotM) : D := .l l.length (slotsF l)
abbrev oSlots (l : List SlotM) : RC := .own 60 2 l.length (slotsF l)
theorem c_laws_toSlot (p : SlotM) : FnOK Tryd.prog 34 [slotLV p] (.r (.agg [.v (.int .i64 p.guest), .v (.int .i64 p.steps)])) := by
  refine fn_of lv34 Tryd.func34 rfl rfl (by kernel_rfl) rfl ?_
  exact ⟨⟨rfl, rfl, trivial⟩, rfl⟩
theorem c_laws_toSlotS (l : List SlotM) (hl : l.length * 16 ≤ 140737488355328) : FnOK Tryd.prog 19 [.d (slots l)] (.r (.one (oSlots l))) := by
  refine fn_of lv19 Tryd.func19 rfl rfl (by kernel_rfl) rfl ?_
  refine ask_intro ⟨rfl, by omega, by show (l.length : Int) * 16 ≤ 140737488355328; omega, by omega⟩ ?_
  refine ⟨{ i : Nat // i ≤ l.length }, fun i => ⟨frL [(0, .d (slots l)), (3, .row 96), (4, di i.1)], hpL [(96, .row 60 2 l.length fun j => if j < i.1 then slotsF l j else slotD ⟨0, 0⟩)], 97, 0⟩, fun i => l.length - i.1, ⟨0, by omega⟩,
    le_of [(96, 4160)] rfl rfl rfl rfl (tellHp_row rfl rfl rfl (fun i hi => rfl) tellHp_nil) (tellFr_d rfl (DLe.refl _) (tellFr_row rfl rfl (tellFr_v rfl rfl trivial))), ?_⟩
  rintro ⟨i, hi⟩
  refine bsplit_intro (fun h => ?_) (fun h => ?_)
  · have h : i < l.length := by simp at h; exact h
    refine ask_intro ⟨by omega, by simp; omega, rfl⟩ ?_
    refine .inl ⟨_, _, rfl, c_laws_toSlot (l.getD i ⟨0, 0⟩), rfl, ?_⟩
    refine ask_intro ⟨by omega, by simp; omega⟩ ?_
    refine ask_intro (by show i < l.length; exact h) ?_
    refine ⟨⟨i + 1, by omega⟩, le_of [(96, 96)] rfl rfl rfl rfl (tellHp_row rfl rfl rfl (fun j hj => ?_) tellHp_nil) (tellFr_d rfl (DLe.refl _) (tellFr_row rfl rfl (tellFr_v rfl (congrArg (Value.int .i64) (?_ : IntKind.i64.wrap ((i : Int) + 1) = ((i + 1 : Nat) : Int))) trivial))), ?_⟩
    · show (if j = i then splice (if j < i then slotsF l j else slotD ⟨0, 0⟩) 0 (slotD (l.getD i ⟨0, 0⟩)) else if j < i then slotsF l j else slotD ⟨0, 0⟩) = if j < i + 1 then slotsF l j else slotD ⟨0, 0⟩
      by_cases h1 : j = i
      · subst h1
        rw [if_pos rfl, if_neg (by omega), if_pos (by omega)]
        rfl
      · rw [if_neg h1]
        by_cases h2 : j < i
        · rw [if_pos h2, if_pos (by omega)]
        · rw [if_neg h2, if_neg (by omega)]
    · exact wrap_i64 (i + 1) (by omega) (by omega)
    · show l.length - (i + 1) < l.length - i
      omega
  · simp at h
    refine ⟨⟨⟨rfl, rfl, rfl, fun j hj => ⟨?_, rfl⟩⟩, trivial⟩, rfl⟩
    show (if j < i then slotsF l j else _) = _
    rw [if_pos (by omega)]
theorem c_laws_szSlotS (l : List SlotM) (q : Int) (hq : -9223372036854775808 ≤ q - l.length) (hq2 : q - l.length < 9223372036854775808) : FnOK Tryd.prog 13 [.d (slots l), di q] (ri (if q - l.length < 0 then -1 else q - l.length)) := by
  refine fn_of lv13 Tryd.func13 rfl rfl (by kernel_rfl) rfl ?_
  refine bsplit_intro (fun h => ?_) (fun h => ?_)
  · refine ⟨⟨congrArg (Value.int .i64) (?_ : (-1 : Int) = _), trivial⟩, rfl⟩
    rw [wrap_i64 _ hq hq2] at h
    simp only [decide_eq_true_eq] at h
    rw [if_pos h]
  · refine ⟨⟨congrArg (Value.int .i64) (?_ : IntKind.i64.wrap (q - l.length) = _), trivial⟩, rfl⟩
    rw [wrap_i64 _ hq hq2] at h ⊢
    simp only [decide_eq_false_iff_not] at h
    rw [if_neg h]
theorem c_laws_eqSlot (p q : SlotM) : FnOK Tryd.prog 44 [slotLV p, slotLV q] (rb (decide (p = q))) := by
  refine fn_of lv44 Tryd.func44 rfl rfl (by kernel_rfl) rfl ?_
  repeat' (refine bsplit_intro (fun h => ?_) (fun h => ?_))
  all_goals refine ⟨⟨congrArg Value.bool ?_, trivial⟩, rfl⟩
  all_goals (obtain ⟨a0, a1⟩ := p; obtain ⟨b0, b1⟩ := q; simp_all)
theorem c_laws_eqSlotS (l m : List SlotM) (hl : l.length ≤ 9223372036854775807) : FnOK Tryd.prog 25 [.d (slots l), .d (slots m)] (rb (decide (l = m))) := by
  refine fn_of lv25 Tryd.func25 rfl rfl (by kernel_rfl) rfl ?_
  refine bsplit_intro (fun h => ?_) (fun h => ?_)
  · refine ⟨⟨congrArg Value.bool (?_ : false = _), trivial⟩, rfl⟩
    simp at h
    symm
    rw [decide_eq_false_iff_not]
    rintro rfl
    exact h rfl
  have hlen : l.length = m.length := by simp at h; omega
  refine ⟨{ i : Nat // i ≤ l.length ∧ decide (l.drop i = m.drop i) = decide (l = m) }, fun i => ⟨frL [(0, .d (slots l)), (1, .d (slots m)), (5, di i.1)], hpL [], 0, 0⟩, fun i => l.length - i.1, ⟨0, by simp⟩,
    le_of [] rfl rfl rfl rfl trivial (tellFr_d rfl (DLe.refl _) (tellFr_d rfl (DLe.refl _) (tellFr_v rfl rfl trivial))), ?_⟩
  rintro ⟨i, hi, hall⟩
  refine bsplit_intro (fun h => ?_) (fun h => ?_)
  · have h : i < l.length := by simp at h; exact h
    rw [drop_consG ⟨0, 0⟩ l i h, drop_consG ⟨0, 0⟩ m i (by omega)] at hall
    refine ask_intro ⟨by omega, by simp; omega, rfl⟩ ?_
    refine ask_intro ⟨by omega, by simp; omega, rfl⟩ ?_
    refine .inl ⟨_, _, rfl, c_laws_eqSlot (l.getD i ⟨0, 0⟩) (m.getD i ⟨0, 0⟩), rfl, ?_⟩
    refine chk_intro (by kernel_rfl) ?_
    refine bsplit_intro (fun h2 => ?_) (fun h2 => ?_)
    · refine ⟨⟨congrArg Value.bool (?_ : false = _), trivial⟩, rfl⟩
      have h2 : ¬ l.getD i ⟨0, 0⟩ = m.getD i ⟨0, 0⟩ := by simpa only [Bool.not_eq_true', decide_eq_false_iff_not] using h2
      rw [← hall]
      symm
      rw [decide_eq_false_iff_not]
      intro e
      exact h2 (List.cons.inj e).1
    · have h2 : l.getD i ⟨0, 0⟩ = m.getD i ⟨0, 0⟩ := by simpa only [Bool.not_eq_false', decide_eq_true_eq] using h2
      rw [h2] at hall
      refine ⟨⟨i + 1, by omega, by rw [← hall]; simp⟩, le_of [] rfl rfl rfl rfl trivial (tellFr_d rfl (DLe.refl _) (tellFr_d rfl (DLe.refl _) (tellFr_v rfl (congrArg (Value.int .i64) (?_ : IntKind.i64.wrap ((i : Int) + 1) = ((i + 1 : Nat) : Int))) trivial))), by show l.length - (i + 1) < l.length - i; omega⟩
      exact wrap_i64 (i + 1) (by omega) (by omega)
  · refine ⟨⟨congrArg Value.bool (?_ : true = _), trivial⟩, rfl⟩
    simp at h
    rw [← hall, List.drop_eq_nil_of_le h, List.drop_eq_nil_of_le (by omega)]; simp
end Go.Proofs.YtojaakpnpdnbhaaDoor.L

/- Policies: read, measured, compared: contracts. -/
set_option linter.unusedVariables false
set_option linter.unusedSimpArgs false
set_option maxRecDepth 100000
namespace Go.Proofs.YtojaakpnpdnbhaaDoor.L
open Go.RowKit
abbrev ownsF (l : List (List Int)) (i : Nat) : List D := [ints (l.getD i [])]
abbrev owns (l : List (List Int)) : D := .l l.length (ownsF l)
abbrev lenF (l : List (List Int)) (i : Nat) : Nat := (l.getD i []).length
abbrev inF (l : List (List Int)) (i j : Nat) : List D := intsF (l.getD i []) j
abbrev oOwns (l : List (List Int)) : RC := .ownn 53 2 1 l.length (lenF l) (inF l)
def sumN (l : List (List Int)) : Nat := (l.map List.length).sum
theorem sumN_take (l : List (List Int)) (i : Nat) (h : i < l.length) : sumN (l.take (i + 1)) = sumN (l.take i) + (l.getD i []).length := by
  unfold sumN
  rw [List.take_succ_eq_append_getElem h, List.map_append, List.sum_append, getD_at _ h]
  simp
theorem sumN_le (l : List (List Int)) (i : Nat) : sumN (l.take i) ≤ sumN l := by
  unfold sumN
  conv => rhs; rw [← List.take_append_drop i l, List.map_append, List.sum_append]
  omega
theorem sumN_get (l : List (List Int)) (i : Nat) (h : i < l.length) : (l.getD i []).length ≤ sumN l := by
  have := sumN_take l i h
  have := sumN_le l (i + 1)
  omega
theorem c_laws_toInt64SS (l : List (List Int)) (hl : l.length * 24 ≤ 140737488355328) (hs : ∀ i, i < l.length → (l.getD i []).length * 8 ≤ 140737488355328) : FnOK Tryd.prog 16 [.d (owns l)] (.r (.one (oOwns l))) := by
  refine fn_of lv16 Tryd.func16 rfl rfl (by kernel_rfl) rfl ?_
  refine ask_intro ⟨rfl, by omega, by show (l.length : Int) * 24 ≤ 140737488355328; omega, by omega⟩ ?_
  refine ⟨{ i : Nat // i ≤ l.length }, fun i => ⟨frL [(0, .d (owns l)), (3, .row 96), (4, di i.1)], hpL [(96, .nest 53 2 1 l.length (fun j => if j < i.1 then lenF l j else 0) (inF l) [])], 97, 0⟩, fun i => l.length - i.1, ⟨0, by omega⟩,
    le_of [(96, 4160)] rfl rfl rfl rfl (tellHp_nest rfl rfl rfl (fun i hi => ⟨rfl, fun j hj => absurd hj (Nat.not_lt_zero _)⟩) tellHp_nil) (tellFr_d rfl (DLe.refl _) (tellFr_row rfl rfl (tellFr_v rfl rfl trivial))), ?_⟩
  rintro ⟨i, hi⟩
  refine bsplit_intro (fun h => ?_) (fun h => ?_)
  · have h : i < l.length := by simp at h; exact h
    refine ask_intro ⟨by omega, by simp; omega, rfl⟩ ?_
    refine .inl ⟨_, _, rfl, c_laws_toInt64S (l.getD i []) (hs i h), rfl, ?_⟩
    refine ask_intro ⟨by omega, by simp; omega⟩ ?_
    refine ask_intro (by show i < l.length; exact h) ?_
    refine ⟨⟨i + 1, by omega⟩, le_of [(96, 96)] rfl rfl rfl rfl (tellHp_hole rfl rfl rfl rfl rfl rfl ⟨?_, fun j hj => rfl⟩ (fun j hj hne => ⟨?_, fun q hq => rfl⟩) tellHp_nil) (tellFr_d rfl (DLe.refl _) (tellFr_row rfl rfl (tellFr_v rfl (congrArg (Value.int .i64) (?_ : IntKind.i64.wrap ((i : Int) + 1) = ((i + 1 : Nat) : Int))) trivial))), ?_⟩
    · show _ = if i < i + 1 then lenF l i else 0
      rw [if_pos (by omega)]
    · show (if j < i then lenF l j else 0) = if j < i + 1 then lenF l j else 0
      have hne : j ≠ i := hne
      by_cases h2 : j < i
      · rw [if_pos h2, if_pos (by omega)]
      · rw [if_neg h2, if_neg (by omega)]
    · exact wrap_i64 (i + 1) (by omega) (by omega)
    · show l.length - (i + 1) < l.length - i
      omega
  · simp at h
    refine ⟨⟨⟨rfl, rfl, rfl, rfl, fun j hj => ⟨?_, fun q hq => ⟨rfl, rfl⟩⟩⟩, trivial⟩, rfl⟩
    show (if j < i then lenF l j else _) = _
    rw [if_pos (by omega)]
def szO (l : List (List Int)) (q : Int) : Int := if q - (l.length + sumN l : Nat) < 0 then -1 else q - (l.length + sumN l : Nat)
theorem c_laws_szInt64SS (l : List (List Int)) (hl : l.length * 24 ≤ 140737488355328) (hs : ∀ i, i < l.length → (l.getD i []).length * 8 ≤ 140737488355328) (q : Int) (h0 : 0 ≤ q) (h1 : q ≤ 1048576) : FnOK Tryd.prog 10 [.d (owns l), di q] (ri (szO l q)) := by
  generalize hv : szO l q = v
  unfold szO at hv
  have hw : IntKind.i64.wrap (q - l.length) = q - l.length := wrap_i64 _ (by omega) (by omega)
  refine fn_of lv10 Tryd.func10 rfl rfl (by kernel_rfl) rfl ?_
  refine bsplit_intro (fun h => ?_) (fun h => ?_)
  · rw [hw] at h
    have h := of_decide_eq_true h
    rw [if_pos (by omega)] at hv
    exact ⟨⟨congrArg (Value.int .i64) hv, trivial⟩, rfl⟩
  rw [hw] at h
  have h := of_decide_eq_false h
  refine ⟨{ i : Nat // i ≤ l.length ∧ 0 ≤ q - (l.length + sumN (l.take i) : Nat) }, fun i => ⟨frL [(0, .d (owns l)), (1, di (q - (l.length + sumN (l.take i.1) : Nat))), (5, di i.1)], hpL [], 0, 0⟩, fun i => l.length - i.1, ⟨0, by omega, by simp [sumN]; omega⟩,
    le_of [] rfl rfl rfl rfl trivial (tellFr_d rfl (DLe.refl _) (tellFr_v rfl (congrArg (Value.int .i64) (hw.trans (by simp [sumN]))) (tellFr_v rfl rfl trivial))), ?_⟩
  rintro ⟨i, hi, hp⟩
  refine bsplit_intro (fun h2 => ?_) (fun h2 => ?_)
  · have h2 : i < l.length := by simp at h2; exact h2
    have e1 := sumN_take l i h2
    have e2 := sumN_le l (i + 1)
    have e3 := hs i h2
    refine ask_intro ⟨by omega, by simp; omega, rfl⟩ ?_
    refine .inl ⟨_, _, rfl, c_laws_szInt64S (l.getD i []) (q - (l.length + sumN (l.take i) : Nat)) (by omega) (by omega), rfl, ?_⟩
    refine bsplit_intro (fun h3 => ?_) (fun h3 => ?_)
    · have h3 := of_decide_eq_true h3
      refine ⟨⟨congrArg (Value.int .i64) ?_, trivial⟩, rfl⟩
      split at h3
      · rw [if_pos (by omega)] at hv; exact hv
      · omega
    · have h3 := of_decide_eq_false h3
      have h4 : ¬ q - (l.length + sumN (l.take i) : Nat) - ((l.getD i []).length : Int) < 0 := by
        intro h5
        rw [if_pos h5] at h3
        omega
      refine ⟨⟨i + 1, by omega, by omega⟩, le_of [] rfl rfl rfl rfl trivial (tellFr_d rfl (DLe.refl _) (tellFr_v rfl (congrArg (Value.int .i64) ?_) (tellFr_v rfl (congrArg (Value.int .i64) (?_ : IntKind.i64.wrap ((i : Int) + 1) = ((i + 1 : Nat) : Int))) trivial))), by show l.length - (i + 1) < l.length - i; omega⟩
      · show (if _ then _ else _) = _
        rw [if_neg h4]
        show _ = q - (l.length + sumN (l.take (i + 1)) : Nat)
        omega
      · exact wrap_i64 (i + 1) (by omega) (by omega)
  · simp at h2
    refine ⟨⟨congrArg (Value.int .i64) ?_, trivial⟩, rfl⟩
    have hh : l.take i = l := List.take_of_length_le h2
    show q - (l.length + sumN (l.take i) : Nat) = v
    rw [hh] at hp ⊢
    rw [if_neg (by omega)] at hv
    exact hv
theorem c_laws_eqInt64SS (l m : List (List Int)) (hl : l.length ≤ 9223372036854775807) (hs : ∀ i, i < l.length → (l.getD i []).length ≤ 9223372036854775807) : FnOK Tryd.prog 22 [.d (owns l), .d (owns m)] (rb (decide (l = m))) := by
  refine fn_of lv22 Tryd.func22 rfl rfl (by kernel_rfl) rfl ?_
  refine bsplit_intro (fun h => ?_) (fun h => ?_)
  · refine ⟨⟨congrArg Value.bool (?_ : false = _), trivial⟩, rfl⟩
    simp at h
    symm
    rw [decide_eq_false_iff_not]
    rintro rfl
    exact h rfl
  have hlen : l.length = m.length := by simp at h; omega
  refine ⟨{ i : Nat // i ≤ l.length ∧ decide (l.drop i = m.drop i) = decide (l = m) }, fun i => ⟨frL [(0, .d (owns l)), (1, .d (owns m)), (5, di i.1)], hpL [], 0, 0⟩, fun i => l.length - i.1, ⟨0, by simp⟩,
    le_of [] rfl rfl rfl rfl trivial (tellFr_d rfl (DLe.refl _) (tellFr_d rfl (DLe.refl _) (tellFr_v rfl rfl trivial))), ?_⟩
  rintro ⟨i, hi, hall⟩
  refine bsplit_intro (fun h => ?_) (fun h => ?_)
  · have h : i < l.length := by simp at h; exact h
    rw [drop_consG [] l i h, drop_consG [] m i (by omega)] at hall
    refine ask_intro ⟨by omega, by simp; omega, rfl⟩ ?_
    refine ask_intro ⟨by omega, by simp; omega, rfl⟩ ?_
    refine .inl ⟨_, _, rfl, c_laws_eqInt64S (l.getD i []) (m.getD i []) (hs i h), rfl, ?_⟩
    refine chk_intro (by kernel_rfl) ?_
    refine bsplit_intro (fun h2 => ?_) (fun h2 => ?_)
    · refine ⟨⟨congrArg Value.bool (?_ : false = _), trivial⟩, rfl⟩
      have h2 : ¬ l.getD i [] = m.getD i [] := by simpa only [Bool.not_eq_true', beq_eq_false_iff_ne] using h2
      rw [← hall]
      symm
      rw [decide_eq_false_iff_not]
      intro e
      exact h2 (List.cons.inj e).1
    · have h2 : l.getD i [] = m.getD i [] := by simpa only [Bool.not_eq_false', beq_iff_eq] using h2
      rw [h2] at hall
      refine ⟨⟨i + 1, by omega, by rw [← hall]; simp⟩, le_of [] rfl rfl rfl rfl trivial (tellFr_d rfl (DLe.refl _) (tellFr_d rfl (DLe.refl _) (tellFr_v rfl (congrArg (Value.int .i64) (?_ : IntKind.i64.wrap ((i : Int) + 1) = ((i + 1 : Nat) : Int))) trivial))), by show l.length - (i + 1) < l.length - i; omega⟩
      exact wrap_i64 (i + 1) (by omega) (by omega)
  · refine ⟨⟨congrArg Value.bool (?_ : true = _), trivial⟩, rfl⟩
    simp at h
    rw [← hall, List.drop_eq_nil_of_le h, List.drop_eq_nil_of_le (by omega)]; simp
/-! ## a policy -/
structure PolM where
  own : List (List Int)
  lns : List LaneM
  bls : List BellM
  pln : List SlotM
  deriving DecidableEq
abbrev polD (x : PolM) : List D := [owns x.own, lanes x.lns, bells x.bls, slots x.pln]
abbrev polLV (x : PolM) : LV := .agg [.d (owns x.own), .d (lanes x.lns), .d (bells x.bls), .d (slots x.pln)]
abbrev polR (x : PolM) : RV1 := .agg [oOwns x.own, oLanes x.lns, oBells x.bls, oSlots x.pln]
structure PolM.small (x : PolM) : Prop where
  own : x.own.length * 24 ≤ 140737488355328
  ins : ∀ i, i < x.own.length → (x.own.getD i []).length * 8 ≤ 140737488355328
  lns : x.lns.length * 40 ≤ 140737488355328
  bls : x.bls.length * 16 ≤ 140737488355328
  pln : x.pln.length * 16 ≤ 140737488355328
theorem c_laws_toPolicy (x : PolM) (hs : x.small) : FnOK Tryd.prog 6 [polLV x] (.r (polR x)) := by
  refine fn_of lv6 Tryd.func6 rfl rfl (by kernel_rfl) rfl ?_
  refine .inl ⟨_, _, rfl, c_laws_toInt64SS x.own hs.own hs.ins, rfl, ?_⟩
  refine .inl ⟨_, _, rfl, c_laws_toLaneS x.lns hs.lns, rfl, ?_⟩
  refine .inl ⟨_, _, rfl, c_laws_toBellS x.bls hs.bls, rfl, ?_⟩
  refine .inl ⟨_, _, rfl, c_laws_toSlotS x.pln hs.pln, rfl, ?_⟩
  exact ⟨⟨⟨rfl, rfl, rfl, rfl, fun i hi => ⟨rfl, fun j hj => ⟨rfl, rfl⟩⟩⟩, ⟨rfl, rfl, rfl, fun i hi => ⟨rfl, rfl⟩⟩, ⟨rfl, rfl, rfl, fun i hi => ⟨rfl, rfl⟩⟩, ⟨rfl, rfl, rfl, fun i hi => ⟨rfl, rfl⟩⟩, trivial⟩, rfl⟩
theorem c_laws_eqPolicy (x y : PolM) (hs : x.small) : FnOK Tryd.prog 9 [polLV x, polLV y] (rb (decide (x = y))) := by
  have h1 := hs.own
  have h2 := hs.ins
  have h3 := hs.lns
  have h4 := hs.bls
  have h5 := hs.pln
  refine fn_of lv9 Tryd.func9 rfl rfl (by kernel_rfl) rfl ?_
  refine .inl ⟨_, _, rfl, c_laws_eqInt64SS x.own y.own (by omega) (fun i hi => by have := h2 i hi; omega), rfl, ?_⟩
  refine bsplit_intro (fun h => ?_) (fun h => ?_)
  · refine ⟨⟨congrArg Value.bool ?_, trivial⟩, rfl⟩
    obtain ⟨a1, a2, a3, a4⟩ := x; obtain ⟨b1, b2, b3, b4⟩ := y; simp_all
  refine .inl ⟨_, _, rfl, c_laws_eqLaneS x.lns y.lns (by omega), rfl, ?_⟩
  refine bsplit_intro (fun h6 => ?_) (fun h6 => ?_)
  · refine ⟨⟨congrArg Value.bool ?_, trivial⟩, rfl⟩
    obtain ⟨a1, a2, a3, a4⟩ := x; obtain ⟨b1, b2, b3, b4⟩ := y; simp_all
  refine .inl ⟨_, _, rfl, c_laws_eqBellS x.bls y.bls (by omega), rfl, ?_⟩
  refine bsplit_intro (fun h7 => ?_) (fun h7 => ?_)
  · refine ⟨⟨congrArg Value.bool ?_, trivial⟩, rfl⟩
    obtain ⟨a1, a2, a3, a4⟩ := x; obtain ⟨b1, b2, b3, b4⟩ := y; simp_all
  refine .inl ⟨_, _, rfl, c_laws_eqSlotS x.pln y.pln (by omega), rfl, ?_⟩
  refine bsplit_intro (fun h8 => ?_) (fun h8 => ?_)
  all_goals refine ⟨⟨congrArg Value.bool ?_, trivial⟩, rfl⟩
  all_goals (obtain ⟨a1, a2, a3, a4⟩ := x; obtain ⟨b1, b2, b3, b4⟩ := y; simp_all)
/-- how many things a policy has -/
def PolM.size (x : PolM) : Nat := x.own.length + sumN x.own + x.lns.length + x.bls.length + x.pln.length
def szP (x : PolM) (q : Int) : Int := if q - (x.size : Int) < 0 then -1 else q - (x.size : Int)
theorem c_laws_szPolicy (x : PolM) (hs : x.small) (q : Int) (h0 : 0 ≤ q) (h1 : q ≤ 1048576) : FnOK Tryd.prog 4 [polLV x, di q] (ri (szP x q)) := by
  have h2 := hs.lns
  have h3 := hs.bls
  have h4 := hs.pln
  have hsz : x.size = x.own.length + sumN x.own + x.lns.length + x.bls.length + x.pln.length := rfl
  generalize hv : szP x q = v
  unfold szP at hv
  have c1 := c_laws_szInt64SS x.own hs.own hs.ins q h0 h1
  generalize hv1 : szO x.own q = v1 at c1
  unfold szO at hv1
  by_cases b1 : v1 < 0
  · refine fn_of lv4 Tryd.func4 rfl rfl (by kernel_rfl) rfl ?_
    refine .inl ⟨_, _, rfl, c1, rfl, ?_⟩
    refine bsplit_of_true (decide_eq_true b1) ?_
    refine ⟨⟨congrArg (Value.int .i64) ?_, trivial⟩, rfl⟩
    split at hv1
    · rw [if_pos (by omega)] at hv; exact hv
    · omega
  rw [if_neg (by intro e; rw [if_pos e] at hv1; omega)] at hv1
  have c2 := c_laws_szLaneS x.lns v1 (by omega) (by omega)
  generalize hv2 : (if v1 - (x.lns.length : Int) < 0 then (-1 : Int) else v1 - (x.lns.length : Int)) = v2 at c2
  by_cases b2 : v2 < 0
  · refine fn_of lv4 Tryd.func4 rfl rfl (by kernel_rfl) rfl ?_
    refine .inl ⟨_, _, rfl, c1, rfl, ?_⟩
    refine bsplit_of_false (decide_eq_false b1) ?_
    refine .inl ⟨_, _, rfl, c2, rfl, ?_⟩
    refine bsplit_of_true (decide_eq_true b2) ?_
    refine ⟨⟨congrArg (Value.int .i64) ?_, trivial⟩, rfl⟩
    split at hv2
    · rw [if_pos (by omega)] at hv; exact hv
    · omega
  rw [if_neg (by intro e; rw [if_pos e] at hv2; omega)] at hv2
  have c3 := c_laws_szBellS x.bls v2 (by omega) (by omega)
  generalize hv3 : (if v2 - (x.bls.length : Int) < 0 then (-1 : Int) else v2 - (x.bls.length : Int)) = v3 at c3
  by_cases b3 : v3 < 0
  · refine fn_of lv4 Tryd.func4 rfl rfl (by kernel_rfl) rfl ?_
    refine .inl ⟨_, _, rfl, c1, rfl, ?_⟩
    refine bsplit_of_false (decide_eq_false b1) ?_
    refine .inl ⟨_, _, rfl, c2, rfl, ?_⟩
    refine bsplit_of_false (decide_eq_false b2) ?_
    refine .inl ⟨_, _, rfl, c3, rfl, ?_⟩
    refine bsplit_of_true (decide_eq_true b3) ?_
    refine ⟨⟨congrArg (Value.int .i64) ?_, trivial⟩, rfl⟩
    split at hv3
    · rw [if_pos (by omega)] at hv; exact hv
    · omega
  rw [if_neg (by intro e; rw [if_pos e] at hv3; omega)] at hv3
  have c4 := c_laws_szSlotS x.pln v3 (by omega) (by omega)
  generalize hv4 : (if v3 - (x.pln.length : Int) < 0 then (-1 : Int) else v3 - (x.pln.length : Int)) = v4 at c4
  have hfin : v4 = v := by
    rw [← hv, ← hv4]
    by_cases e : v3 - (x.pln.length : Int) < 0
    · rw [if_pos e, if_pos (by omega)]
    · rw [if_neg e, if_neg (by omega)]; omega
  refine fn_of lv4 Tryd.func4 rfl rfl (by kernel_rfl) rfl ?_
  refine .inl ⟨_, _, rfl, c1, rfl, ?_⟩
  refine bsplit_of_false (decide_eq_false b1) ?_
  refine .inl ⟨_, _, rfl, c2, rfl, ?_⟩
  refine bsplit_of_false (decide_eq_false b2) ?_
  refine .inl ⟨_, _, rfl, c3, rfl, ?_⟩
  refine bsplit_of_false (decide_eq_false b3) ?_
  refine .inl ⟨_, _, rfl, c4, rfl, ?_⟩
  refine bsplit_intro (fun h => ?_) (fun h => ?_)
  · have h := of_decide_eq_true h
    refine ⟨⟨congrArg (Value.int .i64) ?_, trivial⟩, rfl⟩
    rw [← hfin]
    split at hv4
    · exact hv4
    · omega
  · exact ⟨⟨congrArg (Value.int .i64) hfin, trivial⟩, rfl⟩
end Go.Proofs.YtojaakpnpdnbhaaDoor.L

/- What is wrong with a policy: the small functions: contracts. -/
set_option linter.unusedVariables false
set_option linter.unusedSimpArgs false
set_option maxRecDepth 100000
namespace Go.Proofs.YtojaakpnpdnbhaaDoor.L
open Go.RowKit
theorem beqc (v : Int) : (fun a : Int => v == a) = fun a => a == v := funext fun a => by
  by_cases h : v = a
  · subst h; rfl
  · rw [beq_eq_false_iff_ne.2 h, beq_eq_false_iff_ne.2 (Ne.symm h)]
abbrev hasI (l : List Int) (v : Int) : Bool := l.any fun a => a == v
theorem wrap1 {i n : Nat} (h : i < n) (hn : n ≤ 4611686018427387904) : IntKind.i64.wrap ((i : Int) + 1) = ((i + 1 : Nat) : Int) := wrap_i64 (i + 1) (by omega) (by omega)
theorem c_spec_l1Has (l : List Int) (v : Int) (hl : l.length ≤ 4611686018427387904) : FnOK Tryd.prog 46 [.d (ints l), di v] (rb (hasI l v)) := by
  refine fn_of lv46 Tryd.func46 rfl rfl (by kernel_rfl) rfl ?_
  refine ⟨{ i : Nat // i ≤ l.length ∧ (l.drop i).any (fun a => a == v) = hasI l v }, fun i => ⟨frL [(0, .d (ints l)), (1, di v), (5, di i.1)], hpL [], 0, 0⟩, fun i => l.length - i.1, ⟨0, by simp⟩, le_of [] rfl rfl rfl rfl trivial (tellFr_d rfl (DLe.refl _) (tellFr_v rfl rfl (tellFr_v rfl rfl trivial))), ?_⟩
  rintro ⟨i, hi, hall⟩
  refine bsplit_intro (fun h => ?_) (fun h => ?_)
  · have h : i < l.length := by simp at h; exact h
    rw [drop_anyG 0 l _ i h] at hall
    refine ask_intro ⟨by omega, by simp; omega, rfl⟩ ?_
    refine bsplit_intro (fun h2 => ?_) (fun h2 => ?_)
    · rw [show (l.getD i 0 == v) = true from h2, Bool.true_or] at hall
      exact ⟨⟨congrArg Value.bool hall, trivial⟩, rfl⟩
    · rw [show (l.getD i 0 == v) = false from h2, Bool.false_or] at hall
      exact ⟨⟨i + 1, by omega, hall⟩, le_of [] rfl rfl rfl rfl trivial (tellFr_d rfl (DLe.refl _) (tellFr_v rfl rfl (tellFr_v rfl (congrArg (Value.int .i64) (wrap1 h hl)) trivial))), by show l.length - (i + 1) < l.length - i; omega⟩
  · simp at h
    rw [List.drop_eq_nil_of_le h] at hall
    exact ⟨⟨congrArg Value.bool hall, trivial⟩, rfl⟩
theorem c_slices_Index_int64 (l : List Int) (v : Int) (hl : l.length ≤ 4611686018427387904) : FnOK Tryd.prog 71 [.d (ints l), di v] (ri (idxG (fun a => v == a) l 0)) := by
  refine fn_of lv71 Tryd.func71 rfl rfl (by kernel_rfl) rfl ?_
  refine ⟨{ i : Nat // i ≤ l.length ∧ idxG (fun a => v == a) l i = idxG (fun a => v == a) l 0 }, fun i => ⟨frL [(0, .d (ints l)), (1, di v), (7, di l.length), (8, di i.1)], hpL [], 0, 0⟩, fun i => l.length - i.1, ⟨0, by omega, rfl⟩,
    le_of [] rfl rfl rfl rfl trivial (tellFr_d rfl (DLe.refl _) (tellFr_v rfl rfl (tellFr_v rfl rfl (tellFr_v rfl rfl trivial)))), ?_⟩
  rintro ⟨i, hi, hall⟩
  refine bsplit_intro (fun h => ?_) (fun h => ?_)
  · have h : i < l.length := by simp at h; exact h
    refine ask_intro ⟨by omega, by simp; omega, rfl⟩ ?_
    refine bsplit_intro (fun h2 => ?_) (fun h2 => ?_)
    · exact ⟨⟨congrArg (Value.int .i64) ((idxG_hit 0 h h2).symm.trans hall), trivial⟩, rfl⟩
    · exact ⟨⟨i + 1, by omega, (idxG_miss 0 h h2).symm.trans hall⟩, le_of [] rfl rfl rfl rfl trivial (tellFr_d rfl (DLe.refl _) (tellFr_v rfl rfl (tellFr_v rfl rfl (tellFr_v rfl (congrArg (Value.int .i64) (wrap1 h hl)) trivial)))), by show l.length - (i + 1) < l.length - i; omega⟩
  · simp at h
    exact ⟨⟨congrArg (Value.int .i64) ((idxG_end h).symm.trans hall), trivial⟩, rfl⟩
theorem c_slices_Contains_int64 (l : List Int) (v : Int) (hl : l.length ≤ 4611686018427387904) : FnOK Tryd.prog 64 [.d (ints l), di v] (rb (hasI l v)) := by
  refine fn_of lv64 Tryd.func64 rfl rfl (by kernel_rfl) rfl ?_
  refine .inl ⟨_, _, rfl, c_slices_Index_int64 l v hl, rfl, ?_⟩
  exact ⟨⟨congrArg Value.bool ((idxG_any l _).trans (congrArg l.any (beqc v))), trivial⟩, rfl⟩
theorem c_slices_Index_Bell (l : List BellM) (b : BellM) (hl : l.length ≤ 4611686018427387904) : FnOK Tryd.prog 66 [.d (bells l), bellLV b] (ri (idxG (fun a => [b.frm, b.to] == [a.frm, a.to]) l 0)) := by
  refine fn_of lv66 Tryd.func66 rfl rfl (by kernel_rfl) rfl ?_
  refine ⟨{ i : Nat // i ≤ l.length ∧ idxG (fun a : BellM => [b.frm, b.to] == [a.frm, a.to]) l i = idxG (fun a => [b.frm, b.to] == [a.frm, a.to]) l 0 }, fun i => ⟨frL [(0, .d (bells l)), (3, .ptr 64 0), (7, di l.length), (8, di i.1)], hpL [(64, .box 58 [di b.frm, di b.to])], 96, 0⟩, fun i => l.length - i.1, ⟨0, by omega, rfl⟩,
    le_of [(64, 0)] rfl rfl rfl rfl (tellHp_box rfl rfl ⟨rfl, rfl, trivial⟩ tellHp_nil) (tellFr_d rfl (DLe.refl _) (tellFr_ptr rfl rfl (tellFr_v rfl rfl (tellFr_v rfl rfl trivial)))), ?_⟩
  rintro ⟨i, hi, hall⟩
  refine bsplit_intro (fun h => ?_) (fun h => ?_)
  · have h : i < l.length := by simp at h; exact h
    refine ask_intro ⟨by omega, by simp; omega, rfl⟩ ?_
    refine chk_intro (by kernel_rfl) ?_
    refine bsplit_intro (fun h2 => ?_) (fun h2 => ?_)
    · exact ⟨⟨congrArg (Value.int .i64) ((idxG_hit ⟨0, 0⟩ h h2).symm.trans hall), trivial⟩, rfl⟩
    · exact ⟨⟨i + 1, by omega, (idxG_miss ⟨0, 0⟩ h h2).symm.trans hall⟩, le_of [(64, 64)] rfl rfl rfl rfl (tellHp_box rfl rfl ⟨rfl, rfl, trivial⟩ tellHp_nil) (tellFr_d rfl (DLe.refl _) (tellFr_ptr rfl rfl (tellFr_v rfl rfl (tellFr_v rfl (congrArg (Value.int .i64) (wrap1 h hl)) trivial)))), by show l.length - (i + 1) < l.length - i; omega⟩
  · simp at h
    exact ⟨⟨congrArg (Value.int .i64) ((idxG_end h).symm.trans hall), trivial⟩, rfl⟩
theorem bellBeq (b : BellM) : (fun a : BellM => [b.frm, b.to] == [a.frm, a.to]) = fun a => a == b := funext fun a => by
  by_cases h : a = b
  · subst h; simp
  · rw [beq_eq_false_iff_ne.2 h]
    refine beq_eq_false_iff_ne.2 (fun e => h ?_)
    obtain ⟨a1, a2⟩ := a; obtain ⟨b1, b2⟩ := b
    simp only [List.cons.injEq, and_true] at e
    rw [e.1, e.2]
theorem c_slices_Contains_Bell (l : List BellM) (b : BellM) (hl : l.length ≤ 4611686018427387904) : FnOK Tryd.prog 58 [.d (bells l), bellLV b] (rb (l.any fun a => a == b)) := by
  refine fn_of lv58 Tryd.func58 rfl rfl (by kernel_rfl) rfl ?_
  refine .inl ⟨_, _, rfl, c_slices_Index_Bell l b hl, rfl, ?_⟩
  exact ⟨⟨congrArg Value.bool ((idxG_any l _).trans (congrArg l.any (bellBeq b))), trivial⟩, rfl⟩
theorem c_slices_IndexFunc_Lane (g : Nat) (m : LaneM) (p : LaneM → Bool) (hg : ∀ x, FnOK Tryd.prog g [laneLV x, .dptr (laneD m)] (rb (p x))) (l : List LaneM) (hl : l.length ≤ 4611686018427387904) : FnOK Tryd.prog 65 [.d (lanes l), .fn g [.dptr (laneD m)]] (ri (idxG p l 0)) := by
  refine fn_of lv65 Tryd.func65 rfl rfl (by kernel_rfl) rfl ?_
  refine ⟨{ i : Nat // i ≤ l.length ∧ idxG p l i = idxG p l 0 }, fun i => ⟨frL [(0, .d (lanes l)), (1, .fn g [.dptr (laneD m)]), (7, di l.length), (8, di i.1)], hpL [], 0, 0⟩, fun i => l.length - i.1, ⟨0, by omega, rfl⟩,
    le_of [] rfl rfl rfl rfl trivial (tellFr_d rfl (DLe.refl _) (tellFr_fn rfl ⟨⟨DLe.refl _, DLe.refl _, DLe.refl _, DLe.refl _, DLe.refl _, trivial⟩, trivial⟩ (tellFr_v rfl rfl (tellFr_v rfl rfl trivial)))), ?_⟩
  rintro ⟨i, hi, hall⟩
  refine bsplit_intro (fun h => ?_) (fun h => ?_)
  · have h : i < l.length := by simp at h; exact h
    refine ask_intro ⟨by omega, by simp; omega, rfl⟩ ?_
    refine .inl ⟨_, _, rfl, hg (l.getD i ⟨0, 0, 0, 0, 0⟩), rfl, ?_⟩
    refine bsplit_intro (fun h2 => ?_) (fun h2 => ?_)
    · exact ⟨⟨congrArg (Value.int .i64) ((idxG_hit ⟨0, 0, 0, 0, 0⟩ h h2).symm.trans hall), trivial⟩, rfl⟩
    · exact ⟨⟨i + 1, by omega, (idxG_miss ⟨0, 0, 0, 0, 0⟩ h h2).symm.trans hall⟩, le_of [] rfl rfl rfl rfl trivial (tellFr_d rfl (DLe.refl _) (tellFr_fn rfl ⟨⟨DLe.refl _, DLe.refl _, DLe.refl _, DLe.refl _, DLe.refl _, trivial⟩, trivial⟩ (tellFr_v rfl rfl (tellFr_v rfl (congrArg (Value.int .i64) (wrap1 h hl)) trivial)))), by show l.length - (i + 1) < l.length - i; omega⟩
  · simp at h
    exact ⟨⟨congrArg (Value.int .i64) ((idxG_end h).symm.trans hall), trivial⟩, rfl⟩
theorem c_slices_IndexFunc_ints (g : Nat) (v : Int) (p : List Int → Bool) (l : List (List Int)) (hg : ∀ i, i < l.length → FnOK Tryd.prog g [.d (ints (l.getD i [])), .dptr [dI v]] (rb (p (l.getD i [])))) (hl : l.length ≤ 4611686018427387904) : FnOK Tryd.prog 62 [.d (owns l), .fn g [.dptr [dI v]]] (ri (idxG p l 0)) := by
  refine fn_of lv62 Tryd.func62 rfl rfl (by kernel_rfl) rfl ?_
  refine ⟨{ i : Nat // i ≤ l.length ∧ idxG p l i = idxG p l 0 }, fun i => ⟨frL [(0, .d (owns l)), (1, .fn g [.dptr [dI v]]), (7, di l.length), (8, di i.1)], hpL [], 0, 0⟩, fun i => l.length - i.1, ⟨0, by omega, rfl⟩,
    le_of [] rfl rfl rfl rfl trivial (tellFr_d rfl (DLe.refl _) (tellFr_fn rfl ⟨⟨DLe.refl _, trivial⟩, trivial⟩ (tellFr_v rfl rfl (tellFr_v rfl rfl trivial)))), ?_⟩
  rintro ⟨i, hi, hall⟩
  refine bsplit_intro (fun h => ?_) (fun h => ?_)
  · have h : i < l.length := by simp at h; exact h
    refine ask_intro ⟨by omega, by simp; omega, rfl⟩ ?_
    refine .inl ⟨_, _, rfl, hg i h, rfl, ?_⟩
    refine bsplit_intro (fun h2 => ?_) (fun h2 => ?_)
    · exact ⟨⟨congrArg (Value.int .i64) ((idxG_hit [] h h2).symm.trans hall), trivial⟩, rfl⟩
    · exact ⟨⟨i + 1, by omega, (idxG_miss [] h h2).symm.trans hall⟩, le_of [] rfl rfl rfl rfl trivial (tellFr_d rfl (DLe.refl _) (tellFr_fn rfl ⟨⟨DLe.refl _, trivial⟩, trivial⟩ (tellFr_v rfl rfl (tellFr_v rfl (congrArg (Value.int .i64) (wrap1 h hl)) trivial)))), by show l.length - (i + 1) < l.length - i; omega⟩
  · simp at h
    exact ⟨⟨congrArg (Value.int .i64) ((idxG_end h).symm.trans hall), trivial⟩, rfl⟩
/-! ## guests, owners, ends -/
abbrev polP (x : PolM) : LV := .dptr (polD x)
def guestB (n : Nat) (g : Int) : Bool := inR g 0 ((n : Int) - 1)
theorem wrapm {n : Nat} (hn : n ≤ 4611686018427387904) : IntKind.i64.wrap ((n : Int) - 1) = (n : Int) - 1 := wrap_i64 _ (by omega) (by omega)
theorem c_spec_l6Guest (x : PolM) (hs : x.small) (g : Int) : FnOK Tryd.prog 50 [polP x, di g] (rb (guestB x.own.length g)) := by
  have h := hs.own
  generalize hv : guestB x.own.length g = v
  unfold guestB at hv
  rw [← wrapm (by omega)] at hv
  refine fn_of lv50 Tryd.func50 rfl rfl (by kernel_rfl) rfl ?_
  refine .inl ⟨_, _, rfl, c_spec_l1In g 0 _, rfl, ?_⟩
  exact ⟨⟨congrArg Value.bool hv, trivial⟩, rfl⟩
theorem c_impl_isGuest (x : PolM) (hs : x.small) (g : Int) : FnOK Tryd.prog 59 [polP x, di g] (rb (guestB x.own.length g)) := by
  have h := hs.own
  generalize hv : guestB x.own.length g = v
  unfold guestB at hv
  rw [← wrapm (by omega)] at hv
  refine fn_of lv59 Tryd.func59 rfl rfl (by kernel_rfl) rfl ?_
  refine .inl ⟨_, _, rfl, c_impl_within g 0 _, rfl, ?_⟩
  exact ⟨⟨congrArg Value.bool hv, trivial⟩, rfl⟩
def ownerP (l : List (List Int)) (v : Int) : Int := idxG (fun r => hasI r v) l 0
theorem c_impl_owner_1 (r : List Int) (v : Int) (hr : r.length ≤ 4611686018427387904) : FnOK Tryd.prog 63 [.d (ints r), .dptr [dI v]] (rb (hasI r v)) := by
  refine fn_of lv63 Tryd.func63 rfl rfl (by kernel_rfl) rfl ?_
  refine .inl ⟨_, _, rfl, c_slices_Contains_int64 r v hr, rfl, ?_⟩
  exact ⟨⟨rfl, trivial⟩, rfl⟩
theorem c_impl_owner (x : PolM) (hs : x.small) (v : Int) : FnOK Tryd.prog 54 [polP x, di v] (ri (ownerP x.own v)) := by
  have h := hs.own
  have h2 := hs.ins
  refine fn_of lv54 Tryd.func54 rfl rfl (by kernel_rfl) rfl ?_
  refine .inl ⟨_, _, rfl, c_slices_IndexFunc_ints 63 v (fun r => hasI r v) x.own (fun i hi => c_impl_owner_1 _ v (by have := h2 i hi; omega)) (by omega), rfl, ?_⟩
  exact ⟨⟨rfl, trivial⟩, rfl⟩
theorem c_spec_l6Owner (x : PolM) (hs : x.small) (v : Int) : FnOK Tryd.prog 48 [polP x, di v] (ri (ownerP x.own v)) := by
  have hl := hs.own
  have h0 := hs.ins
  refine fn_of lv48 Tryd.func48 rfl rfl (by kernel_rfl) rfl ?_
  refine ⟨{ i : Nat // i ≤ x.own.length ∧ idxG (fun r => hasI r v) x.own i = ownerP x.own v }, fun i => ⟨frL [(0, polP x), (1, di v), (5, di i.1)], hpL [], 0, 0⟩, fun i => x.own.length - i.1, ⟨0, by omega, rfl⟩,
    le_of [] rfl rfl rfl rfl trivial (tellFr_x rfl ⟨DLe.refl _, DLe.refl _, DLe.refl _, DLe.refl _, trivial⟩ (tellFr_v rfl rfl (tellFr_v rfl rfl trivial))), ?_⟩
  rintro ⟨i, hi, hall⟩
  refine bsplit_intro (fun h => ?_) (fun h => ?_)
  · have h : i < x.own.length := by simp at h; exact h
    refine ask_intro ⟨by omega, by simp; omega, rfl⟩ ?_
    refine .inl ⟨_, _, rfl, c_spec_l1Has (x.own.getD i []) v (by have := h0 i h; omega), rfl, ?_⟩
    refine bsplit_intro (fun h2 => ?_) (fun h2 => ?_)
    · exact ⟨⟨congrArg (Value.int .i64) ((idxG_hit [] h h2).symm.trans hall), trivial⟩, rfl⟩
    · exact ⟨⟨i + 1, by omega, (idxG_miss [] h h2).symm.trans hall⟩, le_of [] rfl rfl rfl rfl trivial (tellFr_x rfl ⟨DLe.refl _, DLe.refl _, DLe.refl _, DLe.refl _, trivial⟩ (tellFr_v rfl rfl (tellFr_v rfl (congrArg (Value.int .i64) (wrap1 h (by omega))) trivial))), by show x.own.length - (i + 1) < x.own.length - i; omega⟩
  · simp at h
    exact ⟨⟨congrArg (Value.int .i64) ((idxG_end h).symm.trans hall), trivial⟩, rfl⟩
def endsF (n : Nat) (a b : Int) : Int := bif !guestB n a || !guestB n b then 4 else bif a == b then 1 else 0
theorem c_spec_l6Ends (x : PolM) (hs : x.small) (a b : Int) : FnOK Tryd.prog 47 [polP x, di a, di b] (ri (endsF x.own.length a b)) := by
  have c1 := c_spec_l6Guest x hs a
  have c2 := c_spec_l6Guest x hs b
  generalize hv : endsF x.own.length a b = v
  unfold endsF at hv
  refine fn_of lv47 Tryd.func47 rfl rfl (by kernel_rfl) rfl ?_
  refine .inl ⟨_, _, rfl, c1, rfl, ?_⟩
  repeat' (first | refine bsplit_true ?_ | refine bsplit_false ?_ | refine .inl ⟨_, _, rfl, c2, rfl, ?_⟩ | refine bsplit_intro (fun h => ?_) (fun h => ?_))
  all_goals refine ⟨⟨congrArg (Value.int .i64) ?_, trivial⟩, rfl⟩
  all_goals simp_all
theorem c_impl_linkFault (x : PolM) (hs : x.small) (a b : Int) : FnOK Tryd.prog 53 [polP x, di a, di b] (ri (endsF x.own.length a b)) := by
  have c1 := c_impl_isGuest x hs a
  have c2 := c_impl_isGuest x hs b
  generalize hv : endsF x.own.length a b = v
  unfold endsF at hv
  refine fn_of lv53 Tryd.func53 rfl rfl (by kernel_rfl) rfl ?_
  refine .inl ⟨_, _, rfl, c1, rfl, ?_⟩
  repeat' (first | refine bsplit_true ?_ | refine bsplit_false ?_ | refine .inl ⟨_, _, rfl, c2, rfl, ?_⟩ | refine bsplit_intro (fun h => ?_) (fun h => ?_))
  all_goals refine ⟨⟨congrArg (Value.int .i64) ?_, trivial⟩, rfl⟩
  all_goals simp_all
end Go.Proofs.YtojaakpnpdnbhaaDoor.L

/- Texts: the library's functions, as the kit's shelf has them, in the symbolic logic. -/
set_option linter.unusedVariables false
set_option linter.unusedSimpArgs false
set_option maxRecDepth 100000
namespace Go.Proofs.YtojaakpnpdnbhaaDoor.L
open Go.RowKit
/-- a text of these bytes -/
def tx (l : List UInt8) : ByteArray := ⟨l.toArray⟩
theorem tx_app (a b : List UInt8) : tx a ++ tx b = tx (a ++ b) := by
  apply ByteArray.ext
  simp [tx]
theorem tx_size (a : List UInt8) : (tx a).size = a.length := by
  show (tx a).data.size = _
  simp [tx]
theorem tx_list (a : List UInt8) : (tx a).data.toList = a := by simp [tx]
abbrev dT (l : List UInt8) : LV := .d (.v (.string (tx l)))
abbrev rT (l : List UInt8) : RV := .r (.one (.v (.string (tx l))))
/-- a function that answers a plain value and turns nothing of what was there -/
theorem FnOK.of_val {P : Program} {g : FuncId} {fn : Func} (hf : P.funcs[g]? = Option.some fn) (hb : fn.body.isSome = true) (hn : (fn.name == "runtime.NumGoroutine") = false) {lvs : List LV} {x : Value}
    (h : ∀ (W : World) (F : Nat → Prop) (vs : List Value), (∀ b, F b → b < W.heap.size) → GlOK F W → vs.length = lvs.length → (∀ j, j < lvs.length → VR (fun _ => none) W F (lvs.getD j .bad) (vs.getD j undef)) → Calls P g vs.toArray W fun e W' => e = .returned x ∧ Below W.heap.size W W') : FnOK P g lvs (.r (.one (.v x))) :=
  ⟨⟨fn, hf, hb, hn⟩, fun W F vs hG hl hv => (h W F vs hG.1 hG.2 hl hv).mono fun e W' ⟨he, hB⟩ => ⟨x, he, hB, ⟨[x], fun _ => False, rfl, rfl, fun b hb => hb.elim, fun j c hc => by
    match j, hc with
    | 0, hc => cases hc; exact rfl, fun j c e g hc ho => by
    match j, hc with
    | 0, hc => cases hc; simp [entOf] at ho, fun i j c d e e' g hc hd ho => by
    match i, hc with
    | 0, hc => cases hc; simp [entOf] at ho⟩⟩⟩
theorem below_grow (w : World) (k : Nat) (os : Array Obj) : Below w.heap.size w (Sort.grow (w.drewN k) os) := ⟨rfl, rfl, rfl, by simp [Sort.grow, World.drewN], fun i hi => by
  show (w.heap ++ os)[i]? = _
  rw [Array.getElem?_append_left hi]⟩
theorem vs2 {vs : List Value} (h : vs.length = 2) : ∃ a b, vs = [a, b] := by
  match vs, h with
  | [a, b], _ => exact ⟨a, b, rfl⟩
theorem VR.atomv {ρ : Nat → Option Value} {w : World} {I : Nat → Prop} {x v : Value} (h : VR ρ w I (.d (.v x)) v) : v = x := VR.atom h
theorem pow10_mem : (1, IntKind.u64, Lib.pow10Tab) ∈ gtab := by
  unfold gtab
  decide
theorem c_strconv_FormatInt (n : Int) (h0 : -9223372036854775808 ≤ n) (h1 : n ≤ 9223372036854775807) : FnOK Tryd.prog 70 [di n, di 10] (rT (Lib.itoa n)) :=
  FnOK.of_val Tryd.func70 (by kernel_rfl) (by kernel_rfl) fun W F vs hF hG hl hv => by
    obtain ⟨a, b, rfl⟩ := vs2 hl
    have ha : a = .int .i64 n := VR.atomv (hv 0 (by simp))
    have hb : b = .int .i64 10 := VR.atomv (hv 1 (by simp))
    subst ha hb
    have htab : Lib.TabIs Tryd.prog W "internal/strconv.uint64pow10" .u64 Lib.pow10Tab := tab_of_gl hG (by kernel_rfl) pow10_mem
    refine (Tryd.strconv_FormatInt_10 n h0 h1 W htab).mono fun e W' ⟨he, k, os, hw⟩ => ⟨he, ?_⟩
    subst hw
    exact below_grow W k os
/-- rows of texts -/
abbrev txsF (l : List (List UInt8)) (i : Nat) : List D := [.v (.string (tx (l.getD i [])))]
abbrev txs (l : List (List UInt8)) : D := .l l.length (txsF l)
theorem c_strings_Join (l : List (List UInt8)) (sep : List UInt8) (hl : l.length ≤ 140737488355328) (hb : (Lib.join l sep).length ≤ 140737488355328) : FnOK Tryd.prog 60 [.d (txs l), dT sep] (rT (Lib.join l sep)) :=
  FnOK.of_val Tryd.func60 (by kernel_rfl) (by kernel_rfl) fun W F vs hF hG hlen hv => by
    obtain ⟨a, b, rfl⟩ := vs2 hlen
    have hb' : b = .string (tx sep) := VR.atomv (hv 1 (by simp))
    subst hb'
    have ha : Rd W F (.l l.length (txsF l)) a := VR.data (hv 0 (by simp))
    generalize hfn : (txsF l) = f at ha
    generalize hn : l.length = n at ha
    cases ha with
    | nil f A c =>
      have : l = [] := List.length_eq_zero_iff.1 hn
      subst this
      refine (Tryd.strings_Join_none A c (tx sep) W).mono fun e W' ⟨he, hw⟩ => ⟨he, ?_⟩
      subst hw
      exact Below.refl _ _
    | l n f ad c sz vs h0 hc hI hs hz hll hvv h1 hr =>
      subst hfn hn
      obtain ⟨bk, o, sp⟩ := ad
      simp only at hs
      subst hs
      have hsz : sz = 1 := by rw [← hll 0 h0]; rfl
      subst hsz
      have hcell : ∀ (j : Nat) x, (l.map tx)[j]? = some x → W.cell? ⟨bk, o + j, none⟩ = some (.string x) := fun j x hx => by
        have hj : j < l.length := by
          rcases Nat.lt_or_ge j l.length with h | h
          · exact h
          · rw [List.getElem?_eq_none (by simpa using h)] at hx; cases hx
        have h2 := hvv j 0 hj (by omega)
        have h3 := hr j 0 hj (by omega)
        have h4 : vs j 0 = .string (tx (l.getD j [])) := by
          have h5 : Rd W F (.v (.string (tx (l.getD j [])))) (vs j 0) := h3
          generalize vs j 0 = z at h5
          cases h5
          rfl
        rw [h4, add_mk, Nat.mul_one, Nat.add_zero] at h2
        rw [h2]
        simp only [List.getElem?_map, List.getElem?_eq_getElem hj, Option.map_some, Option.some.injEq] at hx
        rw [← hx, getD_at [] hj]
      have hmm : (l.map tx).map (·.data.toList) = l := by
        rw [List.map_map]
        conv => rhs; rw [← List.map_id l]
        refine List.map_congr_left fun x _ => ?_
        simp [tx_list]
      have hJ := Tryd.strings_Join bk o c (l.map tx) (tx sep) W hcell (hF _ hI) (by simpa using hl) (by simpa using hc) (by rw [hmm, tx_list]; exact hb)
      rw [hmm, tx_list, List.length_map] at hJ
      exact hJ
end Go.Proofs.YtojaakpnpdnbhaaDoor.L

/- Numbers as texts, lines: contracts. -/
set_option linter.unusedVariables false
set_option linter.unusedSimpArgs false
set_option maxRecDepth 100000
namespace Go.Proofs.YtojaakpnpdnbhaaDoor.L
open Go.RowKit
theorem dd_eq (u : Nat) : Lib.decDigits u = if u < 10 then [UInt8.ofNat (48 + u)] else Lib.decDigits (u / 10) ++ [UInt8.ofNat (48 + u % 10)] := by
  rw [Lib.decDigits]
  split <;> rfl
theorem dd_len (u : Nat) : 1 ≤ (Lib.decDigits u).length ∧ (Lib.decDigits u).length ≤ u + 1 := by
  induction u using Nat.strongRecOn with
  | ind u ih =>
    rw [dd_eq]
    split
    · simp
    · have := ih (u / 10) (by omega)
      simp only [List.length_append, List.length_cons, List.length_nil]
      omega
theorem itoa_pos {n : Int} (h : 0 ≤ n) : Lib.itoa n = Lib.decDigits n.toNat := by
  unfold Lib.itoa
  rw [if_neg (by omega)]
theorem c_impl_decimal (n : Int) (h0 : 0 ≤ n) (h1 : n ≤ 9223372036854775807) : FnOK Tryd.prog 61 [di n] (rT (Lib.decDigits n.toNat)) := by
  have c1 := c_strconv_FormatInt n (by omega) h1
  rw [itoa_pos h0] at c1
  refine fn_of lv61 Tryd.func61 rfl rfl (by kernel_rfl) rfl ?_
  refine .inl ⟨_, _, rfl, c1, rfl, ?_⟩
  exact ⟨⟨rfl, trivial⟩, rfl⟩
theorem c_impl_line (l : List (List UInt8)) (hl : l.length ≤ 140737488355328) (hb : (Lib.join l [32]).length ≤ 140737488355328) : FnOK Tryd.prog 39 [.d (txs l)] (rT (Lib.join l [32] ++ [10])) := by
  have c1 := c_strings_Join l [32] hl hb
  have e := tx_app (Lib.join l [32]) [10]
  have hz : (((tx (Lib.join l [32])).size + (tx [10]).size : Nat) : Int) ≤ 9223372036854775807 := by
    rw [tx_size, tx_size]
    simp only [List.length_cons, List.length_nil]
    omega
  refine fn_of lv39 Tryd.func39 rfl rfl (by kernel_rfl) rfl ?_
  refine .inl ⟨_, _, rfl, c1, rfl, ?_⟩
  refine ask_intro hz ?_
  exact ⟨⟨congrArg Value.string e, trivial⟩, rfl⟩
theorem strT : StrT Tryd.prog 99 9 := ⟨5, by kernel_rfl, by kernel_rfl, by kernel_rfl⟩
theorem bytes1 (n : Int) : bytesS ((List.range 1).map fun i => byteN ((fun i => ([[D.v (.int .u8 n)]] : List (List D)).getD i []) i)) = tx [UInt8.ofNat n.toNat] := by
  show ByteArray.push ByteArray.empty (UInt8.ofNat n.toNat) = tx [UInt8.ofNat n.toNat]
  rfl
theorem wrap_u8i (n : Int) (h1 : 0 ≤ n) (h2 : n < 256) : IntKind.u8.wrap n = n := by rw [IntKind.wrap_u8]; omega
set_option maxHeartbeats 800000 in
theorem c_spec_l2Digits (u : Nat) : ∀ n : Int, n = (u : Int) → n ≤ 9223372036854775000 → FnOK Tryd.prog 51 [di n] (rT (Lib.decDigits u)) := by
  induction u using Nat.strongRecOn with
  | ind u ih =>
    intro n hn hb
    have hdl := dd_len u
    obtain ⟨r, hr⟩ : ∃ r, r = Lib.decDigits u := ⟨_, rfl⟩
    rw [← hr]
    rw [dd_eq] at hr
    by_cases h : u < 10
    · rw [if_pos h] at hr
      have e1 : IntKind.u8.wrap (IntKind.i64.wrap (48 + n)) = 48 + n := by rw [wrap_i64 _ (by omega) (by omega), wrap_u8i _ (by omega) (by omega)]
      have e2 : (48 + n).toNat = 48 + u := by omega
      have e3 : bytesS ((List.range 1).map fun i => byteN ((fun i => ([[D.v (.int .u8 (IntKind.u8.wrap (IntKind.i64.wrap (48 + n))))]] : List (List D)).getD i []) i)) = tx r := by rw [bytes1, e1, e2, hr]
      refine fn_of lv51 Tryd.func51 rfl rfl (by kernel_rfl) rfl ?_
      refine bsplit_of_true (decide_eq_true (by omega)) ?_
      refine ask_intro ⟨strT, by omega, fun i hi => ?_⟩ ?_
      · obtain rfl : i = 0 := by omega
        rfl
      exact ⟨⟨congrArg Value.string e3, trivial⟩, rfl⟩
    · rw [if_neg h] at hr
      have d1 : IntKind.i64.wrap (n.tdiv 10) = ((u / 10 : Nat) : Int) := by
        rw [Int.tdiv_eq_ediv_of_nonneg (by omega), wrap_i64 _ (by omega) (by omega)]; omega
      have d2 : n.tmod 10 = ((u % 10 : Nat) : Int) := by
        rw [Int.tmod_eq_emod_of_nonneg (by omega)]; omega
      have e1 : IntKind.u8.wrap (IntKind.i64.wrap (48 + n.tmod 10)) = 48 + ((u % 10 : Nat) : Int) := by rw [d2, wrap_i64 _ (by omega) (by omega), wrap_u8i _ (by omega) (by omega)]
      have e2 : (48 + ((u % 10 : Nat) : Int)).toNat = 48 + u % 10 := by omega
      have e3 : bytesS ((List.range 1).map fun i => byteN ((fun i => ([[D.v (.int .u8 (IntKind.u8.wrap (IntKind.i64.wrap (48 + n.tmod 10))))]] : List (List D)).getD i []) i)) = tx [UInt8.ofNat (48 + u % 10)] := by rw [bytes1, e1, e2]
      have ci := ih (u / 10) (by omega) (IntKind.i64.wrap (n.tdiv 10)) d1 (by omega)
      have hl2 := dd_len (u / 10)
      have e4 : tx (Lib.decDigits (u / 10)) ++ bytesS ((List.range 1).map fun i => byteN ((fun i => ([[D.v (.int .u8 (IntKind.u8.wrap (IntKind.i64.wrap (48 + n.tmod 10))))]] : List (List D)).getD i []) i)) = tx r := by rw [e3, tx_app, hr]
      have hz : (((tx (Lib.decDigits (u / 10))).size + (bytesS ((List.range 1).map fun i => byteN ((fun i => ([[D.v (.int .u8 (IntKind.u8.wrap (IntKind.i64.wrap (48 + n.tmod 10))))]] : List (List D)).getD i []) i))).size : Nat) : Int) ≤ 9223372036854775807 := by
        rw [e3, tx_size, tx_size]
        simp only [List.length_cons, List.length_nil]
        omega
      refine fn_of lv51 Tryd.func51 rfl rfl (by kernel_rfl) rfl ?_
      refine bsplit_of_false (decide_eq_false (by omega)) ?_
      refine ask_intro (by decide) ?_
      refine .inl ⟨_, _, rfl, ci, rfl, ?_⟩
      refine ask_intro (by decide) ?_
      refine ask_intro ⟨strT, by omega, fun i hi => ?_⟩ ?_
      · obtain rfl : i = 0 := by omega
        rfl
      refine ask_intro hz ?_
      refine chk_intro (by kernel_rfl) ?_
      exact ⟨⟨congrArg Value.string e4, trivial⟩, rfl⟩
end Go.Proofs.YtojaakpnpdnbhaaDoor.L

/- A line of a word and numbers: contracts. -/
set_option linter.unusedVariables false
set_option linter.unusedSimpArgs false
set_option maxRecDepth 100000
namespace Go.Proofs.YtojaakpnpdnbhaaDoor.L
open Go.RowKit
def decT (l : List Int) : List (List UInt8) := l.map fun w => Lib.decDigits w.toNat
abbrev few32 (l : List Int) : Prop := ∀ x ∈ l, 0 ≤ x ∧ x ≤ 4294967295
abbrev oTxs (l : List (List UInt8)) : RC := .own 9 1 l.length (txsF l)
abbrev txE (l : List (List UInt8)) : Ent := .row 9 1 l.length (txsF l)
theorem decT_snoc (l : List Int) (i : Nat) (h : i < l.length) : decT (l.take (i + 1)) = decT (l.take i) ++ [Lib.decDigits (l.getD i 0).toNat] := by
  rw [List.take_succ_eq_append_getElem h, getD_at 0 h]
  unfold decT
  rw [List.map_append, List.map_cons, List.map_nil]
theorem getD_few {l : List Int} (h : few32 l) {i : Nat} (hi : i < l.length) : 0 ≤ l.getD i 0 ∧ l.getD i 0 ≤ 4294967295 := h _ (by
  rw [getD_at 0 hi]
  exact List.getElem_mem _)
theorem upto_txs (a b : List (List UInt8)) (g : Nat → List D) (hg : ∀ j, j < b.length → g j = txsF b j) (i : Nat) (h : i < a.length + b.length) : upto a.length (txsF a) g i = txsF (a ++ b) i := by
  unfold upto
  by_cases hi : i < a.length
  · rw [if_pos hi]
    show [D.v (.string (tx (a.getD i [])))] = _
    simp [List.getD, List.getElem?_append, hi]
  · rw [if_neg hi, hg _ (by omega)]
    show [D.v (.string (tx (b.getD (i - a.length) [])))] = _
    simp [List.getD, List.getElem?_append, hi]
theorem upto_tx1 (w : List UInt8) (b : List (List UInt8)) : ∀ q, upto 1 (fun i => ([[D.v (.string (tx w))]] : List (List D)).getD i []) (txsF b) q = txsF (w :: b) q
  | 0 => rfl
  | q + 1 => by simp [upto]
theorem c_impl_decimals (l : List Int) (hn : l.length ≤ 1000) (hf : few32 l) : FnOK Tryd.prog 40 [.d (ints l)] (.r (.one (oTxs (decT l)))) := by
  refine fn_of lv40 Tryd.func40 rfl rfl (by kernel_rfl) rfl ?_
  refine ⟨{ i : Nat // i ≤ l.length }, fun i => ⟨frL [(3, .row 96), (7, .d (ints l)), (8, di l.length), (9, di i.1)], hpL [(96, txE (decT (l.take i.1)))], 97, 0⟩, fun i => l.length - i.1, ⟨0, by omega⟩,
    le_of [(96, 4096)] rfl rfl rfl rfl (tellHp_row rfl rfl (by simp [decT]) (fun j hj => absurd hj (by omega)) tellHp_nil) (tellFr_row rfl rfl (tellFr_d rfl (DLe.refl _) (tellFr_v rfl rfl (tellFr_v rfl rfl trivial)))), ?_⟩
  rintro ⟨i, hi⟩
  by_cases hb : i < l.length
  · have hx := getD_few hf hb
    have c1 := c_impl_decimal (l.getD i 0) hx.1 (by omega)
    have hwi := congrArg (Value.int .i64) (wrap1 hb (by omega))
    have hsn := decT_snoc l i hb
    have hlen : (decT (l.take i)).length ≤ 1000 := by unfold decT; rw [List.length_map, List.length_take]; omega
    refine bsplit_of_true (decide_eq_true (show (i : Int) < (l.length : Int) by omega)) ?_
    refine ask_intro ⟨by omega, by show (i : Int) < (l.length : Int); omega, rfl⟩ ?_
    refine .inl ⟨_, _, rfl, c1, rfl, ?_⟩
    refine ask_intro ⟨by show ((decT (l.take i)).length + 1) * 16 ≤ 140737488355328; omega, by show (decT (l.take i)).length + 1 ≤ 9223372036854775807; omega, fun j hj => by obtain rfl : j = 0 := (by omega); rfl⟩ ?_
    refine ⟨⟨i + 1, by omega⟩, le_of [(96, 8417)] rfl rfl rfl rfl (tellHp_row rfl rfl ?_ (fun j hj => ?_) tellHp_nil) (tellFr_row rfl rfl (tellFr_d rfl (DLe.refl _) (tellFr_v rfl rfl (tellFr_v rfl hwi trivial)))), by show l.length - (i + 1) < l.length - i; omega⟩
    · show (decT (l.take i)).length + 1 = (decT (l.take (i + 1))).length
      rw [hsn, List.length_append, List.length_cons, List.length_nil]
    · have hj : j < (decT (l.take i)).length + 1 := hj
      rw [hsn]
      exact upto_txs _ [Lib.decDigits (l.getD i 0).toNat] _ (fun q hq => by obtain rfl : q = 0 := (by simpa using hq); rfl) j hj
  · obtain rfl : i = l.length := by omega
    refine bsplit_of_false (decide_eq_false (show ¬ (l.length : Int) < (l.length : Int) by omega)) ?_
    refine ⟨⟨⟨rfl, rfl, ?_, fun j hj => ⟨?_, rfl⟩⟩, trivial⟩, rfl⟩
    · show (decT (l.take l.length)).length = _
      rw [List.take_length]
    · show txsF (decT (l.take l.length)) j = _
      rw [List.take_length]
/-- a line: a word and numbers -/
def lineB (w : List UInt8) (l : List Int) : List UInt8 := w ++ Lib.joinTail [32] (decT l)
theorem lineB_snoc (w : List UInt8) (l : List Int) (i : Nat) (h : i < l.length) : lineB w (l.take (i + 1)) = lineB w (l.take i) ++ [32] ++ Lib.decDigits (l.getD i 0).toNat := by
  unfold lineB
  rw [decT_snoc l i h]
  simp [Lib.joinTail, List.append_assoc]
theorem lineB_len (w : List UInt8) : ∀ {l : List Int}, few32 l → (lineB w l).length ≤ w.length + 4294967297 * l.length
  | [], _ => by simp [lineB, decT, Lib.joinTail]
  | x :: l, h => by
    have h1 := h x (.head _)
    have h2 := lineB_len w (l := l) (fun y hy => h y (.tail _ hy))
    have h3 := dd_len x.toNat
    unfold lineB decT Lib.joinTail at h2 ⊢
    simp only [List.map_cons, List.flatten_cons, List.length_append, List.length_cons, List.length_nil] at h2 ⊢
    omega
def lineT (w : List UInt8) (l : List Int) : List UInt8 := lineB w l ++ [10]
theorem lineT_len (w : List UInt8) {l : List Int} (h : few32 l) : (lineT w l).length ≤ w.length + 4294967297 * l.length + 1 := by
  have := lineB_len w h
  unfold lineT
  rw [List.length_append, List.length_cons, List.length_nil]
  omega
theorem c_impl_numbered (w : List UInt8) (l : List Int) (hw : w.length ≤ 100) (hn : l.length ≤ 1000) (hf : few32 l) : FnOK Tryd.prog 21 [dT w, .d (ints l)] (rT (lineT w l)) := by
  have c1 := c_impl_decimals l hn hf
  have hdl : (decT l).length = l.length := by unfold decT; rw [List.length_map]
  have hj : Lib.join (w :: decT l) [32] = lineB w l := Lib.join_cons _ _ _
  have hlb := lineB_len w hf
  have c2 := c_impl_line (w :: decT l) (by rw [List.length_cons]; omega) (by rw [hj]; omega)
  rw [hj] at c2
  refine fn_of lv21 Tryd.func21 rfl rfl (by kernel_rfl) rfl ?_
  refine .inl ⟨_, _, rfl, c1, rfl, ?_⟩
  refine ask_intro ⟨by show (1 + (decT l).length) * 16 ≤ 140737488355328; omega, by show 1 + (decT l).length ≤ 9223372036854775807; omega, fun j hj => rfl⟩ ?_
  refine .inl ⟨_, _, rfl, c2.weak ⟨LVLe.d (DLe.l (by rw [List.length_cons]; omega) (fun q hq => upto_tx1 w (decT l) q)), trivial⟩, rfl, ?_⟩
  exact ⟨⟨rfl, trivial⟩, rfl⟩
theorem c_spec_l6Line (w : List UInt8) (l : List Int) (hw : w.length ≤ 100) (hn : l.length ≤ 1000) (hf : few32 l) : FnOK Tryd.prog 30 [dT w, .d (ints l)] (rT (lineT w l)) := by
  have hlb := lineB_len w hf
  refine fn_of lv30 Tryd.func30 rfl rfl (by kernel_rfl) rfl ?_
  refine ⟨{ i : Nat // i ≤ l.length }, fun i => ⟨frL [(0, dT (lineB w (l.take i.1))), (1, .d (ints l)), (5, di i.1)], hpL [], 97, 0⟩, fun i => l.length - i.1, ⟨0, by omega⟩,
    le_of [] rfl rfl rfl rfl tellHp_nil (tellFr_v rfl (congrArg (fun z => Value.string (tx z)) (show w = lineB w [] by simp [lineB, decT, Lib.joinTail])) (tellFr_d rfl (DLe.refl _) (tellFr_v rfl rfl trivial))), ?_⟩
  rintro ⟨i, hi⟩
  have hft : few32 (l.take i) := fun x hx => hf x (List.mem_of_mem_take hx)
  have hlt := lineB_len w hft
  have hll : (l.take i).length ≤ 1000 := by rw [List.length_take]; omega
  by_cases hb : i < l.length
  · have hx := getD_few hf hb
    have hd := dd_len (l.getD i 0).toNat
    have c1 := c_spec_l2Digits (l.getD i 0).toNat (l.getD i 0) (by omega) (by omega)
    have hwi := congrArg (Value.int .i64) (wrap1 hb (by omega))
    have hsn := lineB_snoc w l i hb
    have e1 := tx_app (lineB w (l.take i)) [32]
    have e2 : tx (lineB w (l.take i)) ++ tx [32] ++ tx (Lib.decDigits (l.getD i 0).toNat) = tx (lineB w (l.take (i + 1))) := by rw [e1, tx_app, hsn]
    have hz1 : (((tx (lineB w (l.take i))).size + (tx [32]).size : Nat) : Int) ≤ 9223372036854775807 := by
      rw [tx_size, tx_size]
      simp only [List.length_cons, List.length_nil]
      omega
    have hz2 : (((tx (lineB w (l.take i)) ++ tx [32]).size + (tx (Lib.decDigits (l.getD i 0).toNat)).size : Nat) : Int) ≤ 9223372036854775807 := by
      rw [e1, tx_size, tx_size, List.length_append]
      simp only [List.length_cons, List.length_nil]
      omega
    refine bsplit_of_true (decide_eq_true (show (i : Int) < (l.length : Int) by omega)) ?_
    refine ask_intro hz1 ?_
    refine ask_intro ⟨by omega, by show (i : Int) < (l.length : Int); omega, rfl⟩ ?_
    refine .inl ⟨_, _, rfl, c1, rfl, ?_⟩
    refine ask_intro hz2 ?_
    exact ⟨⟨i + 1, by omega⟩, le_of [] rfl rfl rfl rfl tellHp_nil (tellFr_v rfl (congrArg Value.string e2) (tellFr_d rfl (DLe.refl _) (tellFr_v rfl hwi trivial))), by show l.length - (i + 1) < l.length - i; omega⟩
  · obtain rfl : i = l.length := by omega
    have e3 : tx (lineB w (l.take l.length)) ++ tx [10] = tx (lineT w l) := by rw [List.take_length, tx_app]; rfl
    have hz3 : (((tx (lineB w (l.take l.length))).size + (tx [10]).size : Nat) : Int) ≤ 9223372036854775807 := by
      rw [tx_size, tx_size]
      simp only [List.length_cons, List.length_nil]
      omega
    refine bsplit_of_false (decide_eq_false (show ¬ (l.length : Int) < (l.length : Int) by omega)) ?_
    refine ask_intro hz3 ?_
    exact ⟨⟨congrArg Value.string e3, trivial⟩, rfl⟩
end Go.Proofs.YtojaakpnpdnbhaaDoor.L

/- What is wrong with a policy: lanes, bells, the plan: contracts. -/
set_option linter.unusedVariables false
set_option linter.unusedSimpArgs false
set_option maxRecDepth 100000
namespace Go.Proofs.YtojaakpnpdnbhaaDoor.L
open Go.RowKit
def sitsB (l : LaneM) (g p : Int) : Bool := (l.frm == g && l.af == p) || (l.to == g && l.at_ == p)
theorem c_spec_l6At (l : LaneM) (g p : Int) : FnOK Tryd.prog 49 [laneLV l, di g, di p] (rb (sitsB l g p)) := by
  generalize hv : sitsB l g p = v
  unfold sitsB at hv
  refine fn_of lv49 Tryd.func49 rfl rfl (by kernel_rfl) rfl ?_
  repeat' (first | refine bsplit_true ?_ | refine bsplit_false ?_ | refine bsplit_intro (fun h => ?_) (fun h => ?_))
  all_goals refine ⟨⟨congrArg Value.bool ?_, trivial⟩, rfl⟩
  all_goals simp_all
theorem c_impl_sits (l : LaneM) (g p : Int) : FnOK Tryd.prog 57 [laneLV l, di g, di p] (rb (sitsB l g p)) := by
  generalize hv : sitsB l g p = v
  unfold sitsB at hv
  refine fn_of lv57 Tryd.func57 rfl rfl (by kernel_rfl) rfl ?_
  repeat' (first | refine bsplit_true ?_ | refine bsplit_false ?_ | refine bsplit_intro (fun h => ?_) (fun h => ?_))
  all_goals refine ⟨⟨congrArg Value.bool ?_, trivial⟩, rfl⟩
  all_goals simp_all
def clash (m x : LaneM) : Bool := x.page == m.page || (sitsB x m.frm m.af || sitsB x m.to m.at_)
theorem c_impl_laneFault_1 (m x : LaneM) : FnOK Tryd.prog 56 [laneLV x, .dptr (laneD m)] (rb (clash m x)) := by
  have c1 := c_impl_sits x m.frm m.af
  have c2 := c_impl_sits x m.to m.at_
  generalize hv : clash m x = v
  unfold clash at hv
  refine fn_of lv56 Tryd.func56 rfl rfl (by kernel_rfl) rfl ?_
  repeat' (first | refine bsplit_true ?_ | refine bsplit_false ?_ | refine .inl ⟨_, _, rfl, c1, rfl, ?_⟩ | refine .inl ⟨_, _, rfl, c2, rfl, ?_⟩ | refine bsplit_intro (fun h => ?_) (fun h => ?_))
  all_goals refine ⟨⟨congrArg Value.bool ?_, trivial⟩, rfl⟩
  all_goals simp_all
theorem c_slices_ContainsFunc_Lane (m : LaneM) (l : List LaneM) (hl : l.length ≤ 4611686018427387904) : FnOK Tryd.prog 55 [.d (lanes l), .fn 56 [.dptr (laneD m)]] (rb (l.any (clash m))) := by
  refine fn_of lv55 Tryd.func55 rfl rfl (by kernel_rfl) rfl ?_
  refine .inl ⟨_, _, rfl, c_slices_IndexFunc_Lane 56 m (clash m) (c_impl_laneFault_1 m) l hl, rfl, ?_⟩
  exact ⟨⟨congrArg Value.bool (idxG_any l _), trivial⟩, rfl⟩
def laneBad (own : List (List Int)) (m : LaneM) (ahead : List LaneM) : Int := if endsF own.length m.frm m.to = 0 then (bif !inR m.page 0 23 || (!inR m.af 5 6 || !inR m.at_ 5 6) then 3 else bif decide (ownerP own m.page ≥ 0) || ahead.any (clash m) then 6 else 0) else endsF own.length m.frm m.to
theorem c_impl_laneFault (x : PolM) (hs : x.small) (m : LaneM) (ahead : List LaneM) (hl : ahead.length ≤ 4611686018427387904) : FnOK Tryd.prog 36 [polP x, laneLV m, .d (lanes ahead)] (ri (laneBad x.own m ahead)) := by
  have c1 := c_impl_linkFault x hs m.frm m.to
  have c2 := c_impl_within m.page 0 23
  have c3 := c_impl_within m.af 5 6
  have c4 := c_impl_within m.at_ 5 6
  have c5 := c_impl_owner x hs m.page
  have c6 := c_slices_ContainsFunc_Lane m ahead hl
  generalize hv : laneBad x.own m ahead = v
  unfold laneBad at hv
  generalize endsF x.own.length m.frm m.to = e at *
  generalize ownerP x.own m.page = o at *
  refine fn_of lv36 Tryd.func36 rfl rfl (by kernel_rfl) rfl ?_
  refine .inl ⟨_, _, rfl, c1, rfl, ?_⟩
  refine bsplit_intro (fun h => ?_) (fun h => ?_)
  · rw [if_neg (by simpa using h)] at hv
    exact ⟨⟨congrArg (Value.int .i64) hv, trivial⟩, rfl⟩
  rw [if_pos (by simpa using h)] at hv
  refine .inl ⟨_, _, rfl, c2, rfl, ?_⟩
  repeat' (first | refine bsplit_true ?_ | refine bsplit_false ?_ | refine .inl ⟨_, _, rfl, c3, rfl, ?_⟩ | refine .inl ⟨_, _, rfl, c4, rfl, ?_⟩ | refine .inl ⟨_, _, rfl, c5, rfl, ?_⟩ | refine .inl ⟨_, _, rfl, c6, rfl, ?_⟩ | refine bsplit_intro (fun h => ?_) (fun h => ?_))
  all_goals refine ⟨⟨congrArg (Value.int .i64) ?_, trivial⟩, rfl⟩
  all_goals simp_all
def bellBad (n : Nat) (b : BellM) (ahead : List BellM) : Int := if endsF n b.frm b.to = 0 then (bif ahead.any (fun a => a == b) then 6 else 0) else endsF n b.frm b.to
theorem c_impl_bellFault (x : PolM) (hs : x.small) (b : BellM) (ahead : List BellM) (hl : ahead.length ≤ 4611686018427387904) : FnOK Tryd.prog 37 [polP x, bellLV b, .d (bells ahead)] (ri (bellBad x.own.length b ahead)) := by
  have c1 := c_impl_linkFault x hs b.frm b.to
  have c2 := c_slices_Contains_Bell ahead b hl
  generalize hv : bellBad x.own.length b ahead = v
  unfold bellBad at hv
  generalize endsF x.own.length b.frm b.to = e at *
  refine fn_of lv37 Tryd.func37 rfl rfl (by kernel_rfl) rfl ?_
  refine .inl ⟨_, _, rfl, c1, rfl, ?_⟩
  refine bsplit_intro (fun h => ?_) (fun h => ?_)
  · rw [if_neg (by simpa using h)] at hv
    exact ⟨⟨congrArg (Value.int .i64) hv, trivial⟩, rfl⟩
  rw [if_pos (by simpa using h)] at hv
  refine .inl ⟨_, _, rfl, c2, rfl, ?_⟩
  refine bsplit_intro (fun h => ?_) (fun h => ?_)
  all_goals refine ⟨⟨congrArg (Value.int .i64) ?_, trivial⟩, rfl⟩
  all_goals simp_all
def slotBad (n : Nat) (s : SlotM) : Int := bif !guestB n s.guest then 4 else bif !inR s.steps 1 50 then 3 else 0
def planBad (n : Nat) (l : List SlotM) : Int := bif !inR l.length 1 8 then 2 else firstNZ (l.map (slotBad n))
theorem c_impl_planFault (x : PolM) (hs : x.small) : FnOK Tryd.prog 38 [polP x] (ri (planBad x.own.length x.pln)) := by
  have hl := hs.pln
  generalize hv : planBad x.own.length x.pln = v
  unfold planBad at hv
  refine fn_of lv38 Tryd.func38 rfl rfl (by kernel_rfl) rfl ?_
  refine .inl ⟨_, _, rfl, c_impl_within (x.pln.length : Int) 1 8, rfl, ?_⟩
  refine bsplit_intro (fun h => ?_) (fun h => ?_)
  · rw [show (!inR (x.pln.length : Int) 1 8) = true from h, cond_true] at hv
    exact ⟨⟨congrArg (Value.int .i64) hv, trivial⟩, rfl⟩
  rw [show (!inR (x.pln.length : Int) 1 8) = false from h, cond_false] at hv
  refine ⟨{ i : Nat // i ≤ x.pln.length ∧ firstNZ ((x.pln.drop i).map (slotBad x.own.length)) = v }, fun i => ⟨frL [(0, polP x), (15, .d (slots x.pln)), (16, di x.pln.length), (17, di i.1)], hpL [], 0, 0⟩, fun i => x.pln.length - i.1, ⟨0, by omega, hv⟩,
    le_of [] rfl rfl rfl rfl trivial (tellFr_x rfl ⟨DLe.refl _, DLe.refl _, DLe.refl _, DLe.refl _, trivial⟩ (tellFr_d rfl (DLe.refl _) (tellFr_v rfl rfl (tellFr_v rfl rfl trivial)))), ?_⟩
  rintro ⟨i, hi, hall⟩
  by_cases h1 : i < x.pln.length
  · rw [map_drop ⟨0, 0⟩ _ _ _ h1] at hall
    refine bsplit_of_true (decide_eq_true (by show (i : Int) < (x.pln.length : Int); omega)) ?_
    refine ask_intro ⟨by omega, by simp; omega, rfl⟩ ?_
    refine .inl ⟨_, _, rfl, c_impl_isGuest x hs (x.pln.getD i ⟨0, 0⟩).guest, rfl, ?_⟩
    refine bsplit_intro (fun h2 => ?_) (fun h2 => ?_)
    · have e : slotBad x.own.length (x.pln.getD i ⟨0, 0⟩) = 4 := by
        unfold slotBad
        rw [show (!guestB x.own.length (x.pln.getD i ⟨0, 0⟩).guest) = true from h2]; rfl
      rw [e] at hall
      exact ⟨⟨congrArg (Value.int .i64) hall, trivial⟩, rfl⟩
    refine .inl ⟨_, _, rfl, c_impl_within (x.pln.getD i ⟨0, 0⟩).steps 1 50, rfl, ?_⟩
    refine bsplit_intro (fun h3 => ?_) (fun h3 => ?_)
    · have e : slotBad x.own.length (x.pln.getD i ⟨0, 0⟩) = 3 := by
        unfold slotBad
        rw [show (!guestB x.own.length (x.pln.getD i ⟨0, 0⟩).guest) = false from h2, show (!inR (x.pln.getD i ⟨0, 0⟩).steps 1 50) = true from h3]; rfl
      rw [e] at hall
      exact ⟨⟨congrArg (Value.int .i64) hall, trivial⟩, rfl⟩
    have e : slotBad x.own.length (x.pln.getD i ⟨0, 0⟩) = 0 := by
      unfold slotBad
      rw [show (!guestB x.own.length (x.pln.getD i ⟨0, 0⟩).guest) = false from h2, show (!inR (x.pln.getD i ⟨0, 0⟩).steps 1 50) = false from h3]; rfl
    rw [e] at hall
    exact ⟨⟨i + 1, by omega, hall⟩, le_of [] rfl rfl rfl rfl trivial (tellFr_x rfl ⟨DLe.refl _, DLe.refl _, DLe.refl _, DLe.refl _, trivial⟩ (tellFr_d rfl (DLe.refl _) (tellFr_v rfl rfl (tellFr_v rfl (congrArg (Value.int .i64) (wrap1 h1 (by omega))) trivial)))), by show x.pln.length - (i + 1) < x.pln.length - i; omega⟩
  · rw [List.drop_eq_nil_of_le (by omega)] at hall
    refine bsplit_of_false (decide_eq_false (by show ¬ (i : Int) < (x.pln.length : Int); omega)) ?_
    exact ⟨⟨congrArg (Value.int .i64) hall, trivial⟩, rfl⟩
end Go.Proofs.YtojaakpnpdnbhaaDoor.L

/- What is wrong with a policy: what is owned, the whole: contracts of the program. -/
set_option linter.unusedVariables false
set_option linter.unusedSimpArgs false
set_option maxRecDepth 100000
namespace Go.Proofs.YtojaakpnpdnbhaaDoor.L
open Go.RowKit
theorem mapT : MapT Tryd.prog 90 := by
  have h : (Tryd.prog.info? 4).bind (fun i => i.zero) = some (.bool false) := by kernel_rfl
  cases hi : Tryd.prog.info? 4 with
  | none => rw [hi] at h; simp at h
  | some i =>
    rw [hi] at h
    exact ⟨2, 4, i, by kernel_rfl, by kernel_rfl, hi, by simpa using h⟩
abbrev in23 (a : Int) : Bool := inR a 0 23
def rowBad (r : List Int) : Int := bif !inR r.length 1 5 then 2 else bif !r.all in23 then 3 else 0
def dupS : List Int → List Int → Bool
  | _, [] => false
  | S, x :: r => hasI S x || dupS (S ++ [x]) r
def ownBad (l : List (List Int)) : Int := bif !inR l.length 1 3 then 2 else if firstNZ (l.map rowBad) = 0 then (bif dupS [] l.flatten then 6 else 0) else firstNZ (l.map rowBad)
theorem flat_drop (l : List (List Int)) (i : Nat) (h : i < l.length) : (l.drop i).flatten = l.getD i [] ++ (l.drop (i + 1)).flatten := by
  rw [drop_consG [] l i h, List.flatten_cons]
theorem dup_step (S : List Int) (r : List Int) (k : Nat) (h : k < r.length) (rest : List Int) : dupS S (r.drop k ++ rest) = (hasI S (r.getD k 0) || dupS (S ++ [r.getD k 0]) (r.drop (k + 1) ++ rest)) := by
  rw [drop_consG 0 r k h]; rfl
theorem hasI_snoc (S : List Int) (x n : Int) : (if n = x then true else hasI S n) = hasI (S ++ [x]) n := by
  simp only [hasI, List.any_append, List.any_cons, List.any_nil, Bool.or_false]
  by_cases h : n = x
  · subst h; simp
  · rw [if_neg h, beq_eq_false_iff_ne.2 (Ne.symm h), Bool.or_false]
theorem c_impl_ownFault (x : PolM) (hs : x.small) : FnOK Tryd.prog 35 [polP x] (ri (ownBad x.own)) := by
  have hl := hs.own
  have h0 := hs.ins
  generalize hv : ownBad x.own = v
  unfold ownBad at hv
  generalize hc : firstNZ (x.own.map rowBad) = c at hv
  generalize hd : dupS [] x.own.flatten = d at hv
  refine fn_of lv35 Tryd.func35 rfl rfl (by kernel_rfl) rfl ?_
  refine .inl ⟨_, _, rfl, c_impl_within (x.own.length : Int) 1 3, rfl, ?_⟩
  refine bsplit_intro (fun h => ?_) (fun h => ?_)
  · rw [show (!inR (x.own.length : Int) 1 3) = true from h, cond_true] at hv
    exact ⟨⟨congrArg (Value.int .i64) hv, trivial⟩, rfl⟩
  rw [show (!inR (x.own.length : Int) 1 3) = false from h, cond_false] at hv
  refine ask_intro trivial ?_
  refine ⟨{ p : Nat × List Int × Bool // p.1 ≤ x.own.length ∧ firstNZ ((x.own.drop p.1).map rowBad) = c ∧ (p.2.2 || dupS p.2.1 (x.own.drop p.1).flatten) = d },
    fun p => ⟨frL [(3, .mp 64), (4, dv (.bool p.1.2.2)), (20, .d (owns x.own)), (21, di x.own.length), (22, di p.1.1)], hpL [(64, .map 90 (fun n => hasI p.1.2.1 n))], 96, 0⟩, fun p => x.own.length - p.1.1, ⟨(0, [], false), by omega, hc, hd⟩,
    le_of [(64, 8192)] rfl rfl rfl rfl (tellHp_map rfl rfl (fun n => rfl) tellHp_nil) (tellFr_mp rfl rfl (tellFr_v rfl rfl (tellFr_d rfl (DLe.refl _) (tellFr_v rfl rfl (tellFr_v rfl rfl trivial))))), ?_⟩
  rintro ⟨⟨i, S, tw⟩, hi, hall, hdup⟩
  simp only at hi hall hdup
  by_cases h1 : i < x.own.length
  · rw [map_drop [] _ _ _ h1] at hall
    rw [flat_drop _ _ h1] at hdup
    have hrl := h0 i h1
    generalize hb : rowBad (x.own.getD i []) = b at hall
    unfold rowBad at hb
    refine bsplit_of_true (decide_eq_true (by show (i : Int) < (x.own.length : Int); omega)) ?_
    refine ask_intro ⟨by omega, by simp; omega, rfl⟩ ?_
    refine .inl ⟨_, _, rfl, c_impl_within ((x.own.getD i []).length : Int) 1 5, rfl, ?_⟩
    refine bsplit_intro (fun h2 => ?_) (fun h2 => ?_)
    · rw [show (!inR ((x.own.getD i []).length : Int) 1 5) = true from h2, cond_true] at hb
      subst hb
      have hall : (2 : Int) = c := hall
      rw [if_neg (by omega), ← hall] at hv
      exact ⟨⟨congrArg (Value.int .i64) hv, trivial⟩, rfl⟩
    rw [show (!inR ((x.own.getD i []).length : Int) 1 5) = false from h2, cond_false] at hb
    refine ⟨{ p : Nat × List Int × Bool // p.1 ≤ (x.own.getD i []).length ∧ ((x.own.getD i []).drop p.1).all in23 = (x.own.getD i []).all in23 ∧ (p.2.2 || dupS p.2.1 ((x.own.getD i []).drop p.1 ++ (x.own.drop (i + 1)).flatten)) = d },
      fun p => ⟨frL [(3, .mp 64), (4, dv (.bool p.1.2.2)), (20, .d (owns x.own)), (21, di x.own.length), (22, di i), (30, .d (ints (x.own.getD i []))), (31, di (x.own.getD i []).length), (32, di p.1.1)], hpL [(64, .map 90 (fun n => hasI p.1.2.1 n))], 96, 0⟩, fun p => (x.own.getD i []).length - p.1.1, ⟨(0, S, tw), by omega, by simp, hdup⟩,
      le_of [(64, 64)] rfl rfl rfl rfl (tellHp_map rfl rfl (fun n => rfl) tellHp_nil) (tellFr_mp rfl rfl (tellFr_v rfl rfl (tellFr_d rfl (DLe.refl _) (tellFr_v rfl rfl (tellFr_v rfl rfl (tellFr_d rfl (DLe.refl _) (tellFr_v rfl rfl (tellFr_v rfl rfl trivial)))))))), ?_⟩
    rintro ⟨⟨k, S2, tw2⟩, hk, hall2, hdup2⟩
    simp only at hk hall2 hdup2
    by_cases h3 : k < (x.own.getD i []).length
    · rw [drop_all _ in23 k h3] at hall2
      rw [dup_step S2 _ k h3] at hdup2
      refine bsplit_of_true (decide_eq_true (by show (k : Int) < ((x.own.getD i []).length : Int); omega)) ?_
      refine ask_intro ⟨by omega, by show (k : Int) < ((x.own.getD i []).length : Int); omega, rfl⟩ ?_
      refine .inl ⟨_, _, rfl, c_impl_within ((x.own.getD i []).getD k 0) 0 23, rfl, ?_⟩
      refine bsplit_intro (fun h4 => ?_) (fun h4 => ?_)
      · have h4 : in23 ((x.own.getD i []).getD k 0) = false := by simpa using h4
        rw [h4, Bool.false_and] at hall2
        rw [← hall2] at hb
        subst hb
        have hall : (3 : Int) = c := hall
        rw [if_neg (by omega), ← hall] at hv
        exact ⟨⟨congrArg (Value.int .i64) hv, trivial⟩, rfl⟩
      have h4 : in23 ((x.own.getD i []).getD k 0) = true := by simpa using h4
      rw [h4, Bool.true_and] at hall2
      refine bsplit_intro (fun h5 => ?_) (fun h5 => ?_)
      · have h5 : tw2 = true := h5
        rw [h5, Bool.true_or] at hdup2
        repeat' (first | refine bsplit_true ?_ | refine bsplit_false ?_)
        refine ask_intro mapT ?_
        refine ⟨⟨(k + 1, S2 ++ [(x.own.getD i []).getD k 0], true), by show k + 1 ≤ _; omega, hall2, by simp only [Bool.true_or]; exact hdup2⟩, le_of [(64, 64)] rfl rfl rfl rfl (tellHp_map rfl rfl (fun n => hasI_snoc S2 _ n) tellHp_nil) (tellFr_mp rfl rfl (tellFr_v rfl rfl (tellFr_d rfl (DLe.refl _) (tellFr_v rfl rfl (tellFr_v rfl rfl (tellFr_d rfl (DLe.refl _) (tellFr_v rfl rfl (tellFr_v rfl (congrArg (Value.int .i64) (wrap1 h3 (by omega))) trivial)))))))), by show (x.own.getD i []).length - (k + 1) < (x.own.getD i []).length - k; omega⟩
      · have h5 : tw2 = false := h5
        rw [h5, Bool.false_or] at hdup2
        repeat' (first | refine bsplit_true ?_ | refine bsplit_false ?_)
        refine ask_intro mapT ?_
        repeat' (first | refine bsplit_true ?_ | refine bsplit_false ?_)
        refine ask_intro mapT ?_
        refine ⟨⟨(k + 1, S2 ++ [(x.own.getD i []).getD k 0], hasI S2 ((x.own.getD i []).getD k 0)), by show k + 1 ≤ _; omega, hall2, hdup2⟩, le_of [(64, 64)] rfl rfl rfl rfl (tellHp_map rfl rfl (fun n => hasI_snoc S2 _ n) tellHp_nil) (tellFr_mp rfl rfl (tellFr_v rfl rfl (tellFr_d rfl (DLe.refl _) (tellFr_v rfl rfl (tellFr_v rfl rfl (tellFr_d rfl (DLe.refl _) (tellFr_v rfl rfl (tellFr_v rfl (congrArg (Value.int .i64) (wrap1 h3 (by omega))) trivial)))))))), by show (x.own.getD i []).length - (k + 1) < (x.own.getD i []).length - k; omega⟩
    · rw [List.drop_eq_nil_of_le (by omega)] at hall2 hdup2
      have hall2 : true = (x.own.getD i []).all in23 := hall2
      rw [← hall2] at hb
      subst hb
      have hall : firstNZ ((x.own.drop (i + 1)).map rowBad) = c := hall
      refine bsplit_of_false (decide_eq_false (by show ¬ (k : Int) < ((x.own.getD i []).length : Int); omega)) ?_
      refine ⟨⟨(i + 1, S2, tw2), by show i + 1 ≤ _; omega, hall, hdup2⟩, le_of [(64, 64)] rfl rfl rfl rfl (tellHp_map rfl rfl (fun n => rfl) tellHp_nil) (tellFr_mp rfl rfl (tellFr_v rfl rfl (tellFr_d rfl (DLe.refl _) (tellFr_v rfl rfl (tellFr_v rfl (congrArg (Value.int .i64) (wrap1 h1 (by omega))) trivial))))), by show x.own.length - (i + 1) < x.own.length - i; omega⟩
  · rw [List.drop_eq_nil_of_le (by omega)] at hall hdup
    have hall : 0 = c := hall
    have hdup : (tw || false) = d := hdup
    rw [Bool.or_false] at hdup
    rw [if_pos hall.symm] at hv
    refine bsplit_of_false (decide_eq_false (by show ¬ (i : Int) < (x.own.length : Int); omega)) ?_
    refine bsplit_intro (fun h2 => ?_) (fun h2 => ?_)
    · have h2 : tw = true := h2
      rw [← hdup, h2] at hv
      exact ⟨⟨congrArg (Value.int .i64) hv, trivial⟩, rfl⟩
    · have h2 : tw = false := h2
      rw [← hdup, h2] at hv
      exact ⟨⟨congrArg (Value.int .i64) hv, trivial⟩, rfl⟩
def lanesBad (own : List (List Int)) : List LaneM → List LaneM → Int
  | _, [] => 0
  | ahead, m :: r => if laneBad own m ahead = 0 then lanesBad own (ahead ++ [m]) r else laneBad own m ahead
def bellsBad (n : Nat) : List BellM → List BellM → Int
  | _, [] => 0
  | ahead, m :: r => if bellBad n m ahead = 0 then bellsBad n (ahead ++ [m]) r else bellBad n m ahead
def polFault (x : PolM) : Int := if ownBad x.own = 0 then (bif decide (x.lns.length > 4) || decide (x.bls.length > 4) then 2 else if lanesBad x.own [] x.lns = 0 then (if bellsBad x.own.length [] x.bls = 0 then planBad x.own.length x.pln else bellsBad x.own.length [] x.bls) else lanesBad x.own [] x.lns) else ownBad x.own
theorem take_snoc {α : Type} (d : α) (l : List α) (i : Nat) (h : i < l.length) : l.take (i + 1) = l.take i ++ [l.getD i d] := by
  rw [List.take_succ_eq_append_getElem h, getD_at d h]
theorem lanes_step (own : List (List Int)) (l : List LaneM) (i : Nat) (h : i < l.length) : lanesBad own (l.take i) (l.drop i) = if laneBad own (l.getD i ⟨0, 0, 0, 0, 0⟩) (l.take i) = 0 then lanesBad own (l.take (i + 1)) (l.drop (i + 1)) else laneBad own (l.getD i ⟨0, 0, 0, 0, 0⟩) (l.take i) := by
  rw [take_snoc ⟨0, 0, 0, 0, 0⟩ l i h, drop_consG ⟨0, 0, 0, 0, 0⟩ l i h]; rfl
theorem bells_step (n : Nat) (l : List BellM) (i : Nat) (h : i < l.length) : bellsBad n (l.take i) (l.drop i) = if bellBad n (l.getD i ⟨0, 0⟩) (l.take i) = 0 then bellsBad n (l.take (i + 1)) (l.drop (i + 1)) else bellBad n (l.getD i ⟨0, 0⟩) (l.take i) := by
  rw [take_snoc ⟨0, 0⟩ l i h, drop_consG ⟨0, 0⟩ l i h]; rfl
theorem cut_lanes (l : List LaneM) (i : Nat) (h : i ≤ l.length) : LVLe (.d (.l ((i : Int) - 0).toNat (cutF none 0 (lanesF l)))) (.d (lanes (l.take i))) := LVLe.d (DLe.l (by simp; omega) (fun j hj => by
  have hj : j < i := by simpa using hj
  show laneD (l.getD j _) = laneD ((l.take i).getD j _)
  simp [List.getD, List.getElem?_take, hj]))
theorem cut_bells (l : List BellM) (i : Nat) (h : i ≤ l.length) : LVLe (.d (.l ((i : Int) - 0).toNat (cutF none 0 (bellsF l)))) (.d (bells (l.take i))) := LVLe.d (DLe.l (by simp; omega) (fun j hj => by
  have hj : j < i := by simpa using hj
  show bellD (l.getD j _) = bellD ((l.take i).getD j _)
  simp [List.getD, List.getElem?_take, hj]))
theorem c_impl_PolicyFault (x : PolM) (hs : x.small) : FnOK Tryd.prog 20 [polLV x] (ri (polFault x)) := by
  have hl := hs.lns
  have hb := hs.bls
  have c1 := c_impl_ownFault x hs
  have c2 := c_impl_planFault x hs
  generalize hv : polFault x = v
  unfold polFault at hv
  generalize ownBad x.own = e at *
  generalize planBad x.own.length x.pln = pb at *
  refine fn_of lv20 Tryd.func20 rfl rfl (by kernel_rfl) rfl ?_
  refine .inl ⟨_, _, rfl, c1, rfl, ?_⟩
  refine bsplit_intro (fun h => ?_) (fun h => ?_)
  · rw [if_neg (by simpa using h)] at hv
    exact ⟨⟨congrArg (Value.int .i64) hv, trivial⟩, rfl⟩
  rw [if_pos (by simpa using h)] at hv
  refine bsplit_intro (fun h1 => ?_) (fun h1 => ?_)
  · repeat' (first | refine bsplit_true ?_ | refine bsplit_false ?_)
    have h1 : decide ((x.lns.length : Int) > 4) = true := h1
    rw [show decide (x.lns.length > 4) = true from decide_eq_true (by have := of_decide_eq_true h1; omega), Bool.true_or, cond_true] at hv
    exact ⟨⟨congrArg (Value.int .i64) hv, trivial⟩, rfl⟩
  have h1 : decide ((x.lns.length : Int) > 4) = false := h1
  rw [show decide (x.lns.length > 4) = false from decide_eq_false (by have := of_decide_eq_false h1; omega), Bool.false_or] at hv
  repeat' (first | refine bsplit_true ?_ | refine bsplit_false ?_)
  refine bsplit_intro (fun h2 => ?_) (fun h2 => ?_)
  · have h2 : decide ((x.bls.length : Int) > 4) = true := h2
    rw [show decide (x.bls.length > 4) = true from decide_eq_true (by have := of_decide_eq_true h2; omega), cond_true] at hv
    exact ⟨⟨congrArg (Value.int .i64) hv, trivial⟩, rfl⟩
  have h2 : decide ((x.bls.length : Int) > 4) = false := h2
  rw [show decide (x.bls.length > 4) = false from decide_eq_false (by have := of_decide_eq_false h2; omega), cond_false] at hv
  generalize hlc : lanesBad x.own [] x.lns = lc at hv
  generalize hbc : bellsBad x.own.length [] x.bls = bc at hv
  refine ⟨{ i : Nat // i ≤ x.lns.length ∧ lanesBad x.own (x.lns.take i) (x.lns.drop i) = lc }, fun i => ⟨frL [(1, .ptr 64 0), (25, .d (lanes x.lns)), (26, di x.lns.length), (27, di i.1)], hpL [(64, .box 36 [.d (owns x.own), .d (lanes x.lns), .d (bells x.bls), .d (slots x.pln)])], 96, 0⟩, fun i => x.lns.length - i.1, ⟨0, by omega, hlc⟩,
    le_of [(64, 0)] rfl rfl rfl rfl (tellHp_box rfl rfl ⟨DLe.refl _, DLe.refl _, DLe.refl _, DLe.refl _, trivial⟩ tellHp_nil) (tellFr_ptr rfl rfl (tellFr_d rfl (DLe.refl _) (tellFr_v rfl rfl (tellFr_v rfl rfl trivial)))), ?_⟩
  rintro ⟨i, hi, hall⟩
  by_cases h3 : i < x.lns.length
  · rw [lanes_step _ _ _ h3] at hall
    have c3 := (c_impl_laneFault x hs (x.lns.getD i ⟨0, 0, 0, 0, 0⟩) (x.lns.take i) (by rw [List.length_take]; omega)).weak (xs := [polP x, laneLV (x.lns.getD i ⟨0, 0, 0, 0, 0⟩), .d (.l ((i : Int) - 0).toNat (cutF none 0 (lanesF x.lns)))]) ⟨LVLe.refl _, LVLe.refl _, cut_lanes x.lns i hi, trivial⟩
    generalize laneBad x.own (x.lns.getD i ⟨0, 0, 0, 0, 0⟩) (x.lns.take i) = lb at hall c3
    refine bsplit_of_true (decide_eq_true (by show (i : Int) < (x.lns.length : Int); omega)) ?_
    refine ask_intro ⟨by omega, by show (i : Int) < (x.lns.length : Int); omega, rfl⟩ ?_
    refine ask_intro ⟨by omega, by show (0 : Int) ≤ i; omega, by show (i : Int) ≤ (x.lns.length : Int); omega, .inl rfl⟩ ?_
    refine .inl ⟨_, _, rfl, c3, rfl, ?_⟩
    refine chk_intro (by kernel_rfl) ?_
    refine bsplit_intro (fun h4 => ?_) (fun h4 => ?_)
    · have h4 : ¬ lb = 0 := by simpa using h4
      rw [if_neg h4] at hall
      rw [if_neg (by omega), ← hall] at hv
      exact ⟨⟨congrArg (Value.int .i64) hv, trivial⟩, rfl⟩
    · have h4 : lb = 0 := by simpa using h4
      rw [if_pos h4] at hall
      refine ⟨⟨i + 1, by omega, hall⟩, le_of [(64, 64)] rfl rfl rfl rfl (tellHp_box rfl rfl ⟨DLe.refl _, DLe.refl _, DLe.refl _, DLe.refl _, trivial⟩ tellHp_nil) (tellFr_ptr rfl rfl (tellFr_d rfl (DLe.refl _) (tellFr_v rfl rfl (tellFr_v rfl (congrArg (Value.int .i64) (wrap1 h3 (by omega))) trivial)))), by show x.lns.length - (i + 1) < x.lns.length - i; omega⟩
  rw [List.drop_eq_nil_of_le (by omega)] at hall
  have hall : 0 = lc := hall
  rw [if_pos hall.symm] at hv
  refine bsplit_of_false (decide_eq_false (by show ¬ (i : Int) < (x.lns.length : Int); omega)) ?_
  refine ⟨{ i : Nat // i ≤ x.bls.length ∧ bellsBad x.own.length (x.bls.take i) (x.bls.drop i) = bc }, fun i => ⟨frL [(1, .ptr 64 0), (43, .d (bells x.bls)), (44, di x.bls.length), (45, di i.1)], hpL [(64, .box 36 [.d (owns x.own), .d (lanes x.lns), .d (bells x.bls), .d (slots x.pln)])], 96, 0⟩, fun i => x.bls.length - i.1, ⟨0, by omega, hbc⟩,
    le_of [(64, 64)] rfl rfl rfl rfl (tellHp_box rfl rfl ⟨DLe.refl _, DLe.refl _, DLe.refl _, DLe.refl _, trivial⟩ tellHp_nil) (tellFr_ptr rfl rfl (tellFr_d rfl (DLe.refl _) (tellFr_v rfl rfl (tellFr_v rfl rfl trivial)))), ?_⟩
  rintro ⟨k, hk, hall2⟩
  by_cases h3 : k < x.bls.length
  · rw [bells_step _ _ _ h3] at hall2
    have c3 := (c_impl_bellFault x hs (x.bls.getD k ⟨0, 0⟩) (x.bls.take k) (by rw [List.length_take]; omega)).weak (xs := [polP x, bellLV (x.bls.getD k ⟨0, 0⟩), .d (.l ((k : Int) - 0).toNat (cutF none 0 (bellsF x.bls)))]) ⟨LVLe.refl _, LVLe.refl _, cut_bells x.bls k hk, trivial⟩
    generalize bellBad x.own.length (x.bls.getD k ⟨0, 0⟩) (x.bls.take k) = lb at hall2 c3
    refine bsplit_of_true (decide_eq_true (by show (k : Int) < (x.bls.length : Int); omega)) ?_
    refine ask_intro ⟨by omega, by show (k : Int) < (x.bls.length : Int); omega, rfl⟩ ?_
    refine ask_intro ⟨by omega, by show (0 : Int) ≤ k; omega, by show (k : Int) ≤ (x.bls.length : Int); omega, .inl rfl⟩ ?_
    refine .inl ⟨_, _, rfl, c3, rfl, ?_⟩
    refine chk_intro (by kernel_rfl) ?_
    refine bsplit_intro (fun h4 => ?_) (fun h4 => ?_)
    · have h4 : ¬ lb = 0 := by simpa using h4
      rw [if_neg h4] at hall2
      rw [if_neg (by omega), ← hall2] at hv
      exact ⟨⟨congrArg (Value.int .i64) hv, trivial⟩, rfl⟩
    · have h4 : lb = 0 := by simpa using h4
      rw [if_pos h4] at hall2
      refine ⟨⟨k + 1, by omega, hall2⟩, le_of [(64, 64)] rfl rfl rfl rfl (tellHp_box rfl rfl ⟨DLe.refl _, DLe.refl _, DLe.refl _, DLe.refl _, trivial⟩ tellHp_nil) (tellFr_ptr rfl rfl (tellFr_d rfl (DLe.refl _) (tellFr_v rfl rfl (tellFr_v rfl (congrArg (Value.int .i64) (wrap1 h3 (by omega))) trivial)))), by show x.bls.length - (k + 1) < x.bls.length - k; omega⟩
  rw [List.drop_eq_nil_of_le (by omega)] at hall2
  have hall2 : 0 = bc := hall2
  rw [if_pos hall2.symm] at hv
  refine bsplit_of_false (decide_eq_false (by show ¬ (k : Int) < (x.bls.length : Int); omega)) ?_
  refine .inl ⟨_, _, rfl, c2, rfl, ?_⟩
  exact ⟨⟨congrArg (Value.int .i64) hv, trivial⟩, rfl⟩
end Go.Proofs.YtojaakpnpdnbhaaDoor.L

/- What is wrong with a policy: the reference's contracts. -/
set_option linter.unusedVariables false
set_option linter.unusedSimpArgs false
set_option maxRecDepth 100000
namespace Go.Proofs.YtojaakpnpdnbhaaDoor.L
open Go.RowKit
theorem firstNZ_all : ∀ {l : List Int}, firstNZ l = 0 → ∀ x ∈ l, x = 0
  | [], _, x, hx => by simp at hx
  | a :: l, h, x, hx => by
    simp only [firstNZ] at h
    split at h
    · rename_i ha
      rcases List.mem_cons.1 hx with rfl | hx
      · exact ha
      · exact firstNZ_all h x hx
    · rename_i ha; exact absurd h ha
theorem row_len {l : List (List Int)} (h : firstNZ (l.map rowBad) = 0) {i : Nat} (hi : i < l.length) : (l.getD i []).length ≤ 5 := by
  have h1 := firstNZ_all h (rowBad (l.getD i [])) (List.mem_map.2 ⟨_, by rw [getD_at _ hi]; exact List.getElem_mem hi, rfl⟩)
  unfold rowBad at h1
  cases hq : inR ((l.getD i []).length : Int) 1 5 with
  | true => have := (inR_iff.1 hq).2; omega
  | false => rw [hq] at h1; simp at h1
theorem upto_snoc (S : List Int) (x : Int) (g : Nat → List D) (hg : g 0 = [.v (.int .i64 x)]) (q : Nat) (hq : q < S.length + 1) : upto S.length (intsF S) g q = intsF (S ++ [x]) q := by
  unfold upto
  by_cases h : q < S.length
  · rw [if_pos h]
    show [D.v (.int .i64 (S.getD q 0))] = [D.v (.int .i64 ((S ++ [x]).getD q 0))]
    have : (S ++ [x]).getD q 0 = S.getD q 0 := by simp [List.getD, List.getElem?_append_left h]
    rw [this]
  · obtain rfl : q = S.length := by omega
    rw [if_neg h, Nat.sub_self, hg]
    show _ = [D.v (.int .i64 ((S ++ [x]).getD S.length 0))]
    have : (S ++ [x]).getD S.length 0 = x := by simp [List.getD]
    rw [this]
theorem c_spec_l6Owns (x : PolM) (hs : x.small) : FnOK Tryd.prog 27 [polP x] (ri (ownBad x.own)) := by
  have hl := hs.own
  have h0 := hs.ins
  have hr5 := @row_len x.own
  generalize hv : ownBad x.own = v
  unfold ownBad at hv
  generalize hc : firstNZ (x.own.map rowBad) = c at hv hr5
  generalize hd : dupS [] x.own.flatten = d at hv
  refine fn_of lv27 Tryd.func27 rfl rfl (by kernel_rfl) rfl ?_
  refine bsplit_intro (fun h => ?_) (fun h => ?_)
  · repeat' (first | refine bsplit_true ?_ | refine bsplit_false ?_)
    have h : decide ((x.own.length : Int) < 1) = true := h
    rw [show inR (x.own.length : Int) 1 3 = false from by unfold inR; have := of_decide_eq_true h; simp; omega] at hv
    exact ⟨⟨congrArg (Value.int .i64) hv, trivial⟩, rfl⟩
  repeat' (first | refine bsplit_true ?_ | refine bsplit_false ?_)
  refine bsplit_intro (fun h2 => ?_) (fun h2 => ?_)
  · have h2 : decide ((x.own.length : Int) > 3) = true := h2
    rw [show inR (x.own.length : Int) 1 3 = false from by unfold inR; have := of_decide_eq_true h2; simp; omega] at hv
    exact ⟨⟨congrArg (Value.int .i64) hv, trivial⟩, rfl⟩
  have hn1 : ¬ (x.own.length : Int) < 1 := of_decide_eq_false h
  have hn2 : ¬ (x.own.length : Int) > 3 := of_decide_eq_false h2
  rw [show inR (x.own.length : Int) 1 3 = true from inR_iff.2 ⟨by omega, by omega⟩] at hv
  have hv : (if c = 0 then (bif d then 6 else 0) else c) = v := hv
  refine ⟨{ i : Nat // i ≤ x.own.length ∧ firstNZ ((x.own.drop i).map rowBad) = c }, fun i => ⟨frL [(0, polP x), (3, di i.1)], hpL [], 96, 0⟩, fun i => x.own.length - i.1, ⟨0, by omega, hc⟩,
    le_of [] rfl rfl rfl rfl trivial (tellFr_x rfl ⟨DLe.refl _, DLe.refl _, DLe.refl _, DLe.refl _, trivial⟩ (tellFr_v rfl rfl trivial)), ?_⟩
  rintro ⟨i, hi, hall⟩
  by_cases h1 : i < x.own.length
  · rw [map_drop [] _ _ _ h1] at hall
    have hrl := h0 i h1
    generalize hb : rowBad (x.own.getD i []) = b at hall
    unfold rowBad at hb
    refine bsplit_of_true (decide_eq_true (by show (i : Int) < (x.own.length : Int); omega)) ?_
    refine ask_intro ⟨by omega, by show (i : Int) < (x.own.length : Int); omega, rfl⟩ ?_
    refine bsplit_intro (fun h3 => ?_) (fun h3 => ?_)
    · repeat' (first | refine bsplit_true ?_ | refine bsplit_false ?_)
      have h3 : decide (((x.own.getD i []).length : Int) < 1) = true := h3
      rw [show inR ((x.own.getD i []).length : Int) 1 5 = false from by unfold inR; have := of_decide_eq_true h3; simp only [Bool.and_eq_false_imp, decide_eq_true_eq, decide_eq_false_iff_not]; omega] at hb
      have hb : (2 : Int) = b := hb
      subst hb
      have hall : (2 : Int) = c := hall
      rw [if_neg (by omega), ← hall] at hv
      exact ⟨⟨congrArg (Value.int .i64) hv, trivial⟩, rfl⟩
    repeat' (first | refine bsplit_true ?_ | refine bsplit_false ?_)
    refine ask_intro ⟨by omega, by show (i : Int) < (x.own.length : Int); omega, rfl⟩ ?_
    repeat' (first | refine bsplit_true ?_ | refine bsplit_false ?_)
    refine bsplit_intro (fun h4 => ?_) (fun h4 => ?_)
    · have h4 : decide (((x.own.getD i []).length : Int) > 5) = true := h4
      rw [show inR ((x.own.getD i []).length : Int) 1 5 = false from by unfold inR; have := of_decide_eq_true h4; simp only [Bool.and_eq_false_imp, decide_eq_true_eq, decide_eq_false_iff_not]; omega] at hb
      have hb : (2 : Int) = b := hb
      subst hb
      have hall : (2 : Int) = c := hall
      rw [if_neg (by omega), ← hall] at hv
      exact ⟨⟨congrArg (Value.int .i64) hv, trivial⟩, rfl⟩
    have hm1 : ¬ ((x.own.getD i []).length : Int) < 1 := of_decide_eq_false h3
    have hm2 : ¬ ((x.own.getD i []).length : Int) > 5 := of_decide_eq_false h4
    rw [show inR ((x.own.getD i []).length : Int) 1 5 = true from inR_iff.2 ⟨by omega, by omega⟩] at hb
    have hb : (bif !(x.own.getD i []).all in23 then (3 : Int) else 0) = b := hb
    refine ⟨{ k : Nat // k ≤ (x.own.getD i []).length ∧ ((x.own.getD i []).drop k).all in23 = (x.own.getD i []).all in23 }, fun k => ⟨frL [(0, polP x), (3, di i), (4, di k.1)], hpL [], 96, 0⟩, fun k => (x.own.getD i []).length - k.1, ⟨0, by omega, by rw [List.drop_zero]⟩,
      le_of [] rfl rfl rfl rfl trivial (tellFr_x rfl ⟨DLe.refl _, DLe.refl _, DLe.refl _, DLe.refl _, trivial⟩ (tellFr_v rfl rfl (tellFr_v rfl rfl trivial))), ?_⟩
    rintro ⟨k, hk, hall2⟩
    refine ask_intro ⟨by omega, by show (i : Int) < (x.own.length : Int); omega, rfl⟩ ?_
    by_cases h5 : k < (x.own.getD i []).length
    · rw [drop_all _ in23 k h5] at hall2
      refine bsplit_of_true (decide_eq_true (by show (k : Int) < ((x.own.getD i []).length : Int); omega)) ?_
      refine ask_intro ⟨by omega, by show (i : Int) < (x.own.length : Int); omega, rfl⟩ ?_
      refine ask_intro ⟨by omega, by show (k : Int) < ((x.own.getD i []).length : Int); omega, rfl⟩ ?_
      refine .inl ⟨_, _, rfl, c_spec_l1In ((x.own.getD i []).getD k 0) 0 23, rfl, ?_⟩
      refine bsplit_intro (fun h6 => ?_) (fun h6 => ?_)
      · have h6 : in23 ((x.own.getD i []).getD k 0) = false := by simpa using h6
        rw [h6, Bool.false_and] at hall2
        rw [← hall2] at hb
        have hb : (3 : Int) = b := hb
        subst hb
        have hall : (3 : Int) = c := hall
        rw [if_neg (by omega), ← hall] at hv
        exact ⟨⟨congrArg (Value.int .i64) hv, trivial⟩, rfl⟩
      have h6 : in23 ((x.own.getD i []).getD k 0) = true := by simpa using h6
      rw [h6, Bool.true_and] at hall2
      exact ⟨⟨k + 1, by omega, hall2⟩, le_of [] rfl rfl rfl rfl trivial (tellFr_x rfl ⟨DLe.refl _, DLe.refl _, DLe.refl _, DLe.refl _, trivial⟩ (tellFr_v rfl rfl (tellFr_v rfl (congrArg (Value.int .i64) (wrap1 h5 (by omega))) trivial))), by show (x.own.getD i []).length - (k + 1) < (x.own.getD i []).length - k; omega⟩
    · rw [List.drop_eq_nil_of_le (by omega)] at hall2
      have hall2 : true = (x.own.getD i []).all in23 := hall2
      rw [← hall2] at hb
      have hb : (0 : Int) = b := hb
      subst hb
      have hall : firstNZ ((x.own.drop (i + 1)).map rowBad) = c := hall
      refine bsplit_of_false (decide_eq_false (by show ¬ (k : Int) < ((x.own.getD i []).length : Int); omega)) ?_
      exact ⟨⟨i + 1, by omega, hall⟩, le_of [] rfl rfl rfl rfl trivial (tellFr_x rfl ⟨DLe.refl _, DLe.refl _, DLe.refl _, DLe.refl _, trivial⟩ (tellFr_v rfl (congrArg (Value.int .i64) (wrap1 h1 (by omega))) trivial)), by show x.own.length - (i + 1) < x.own.length - i; omega⟩
  rw [List.drop_eq_nil_of_le (by omega)] at hall
  have hall : 0 = c := hall
  rw [if_pos hall.symm] at hv
  have hr6 := fun j => @hr5 hall.symm j
  refine bsplit_of_false (decide_eq_false (by show ¬ (i : Int) < (x.own.length : Int); omega)) ?_
  refine ⟨{ p : Nat × List Int // p.1 ≤ x.own.length ∧ p.2.length ≤ 5 * p.1 ∧ dupS p.2 (x.own.drop p.1).flatten = d },
    fun p => ⟨frL [(0, polP x), (5, .row 64), (6, di p.1.1)], hpL [(64, .row 2 1 p.1.2.length (intsF p.1.2))], 96, 0⟩, fun p => x.own.length - p.1.1, ⟨(0, []), by omega, by simp, hd⟩,
    le_of [(64, 4192)] rfl rfl rfl rfl (tellHp_row rfl rfl rfl (fun j hj => absurd hj (Nat.not_lt_zero _)) tellHp_nil) (tellFr_x rfl ⟨DLe.refl _, DLe.refl _, DLe.refl _, DLe.refl _, trivial⟩ (tellFr_row rfl rfl (tellFr_v rfl rfl trivial))), ?_⟩
  rintro ⟨⟨j, S⟩, hj, hSl, hdup⟩
  simp only at hj hSl hdup
  by_cases h1 : j < x.own.length
  · rw [flat_drop _ _ h1] at hdup
    have hrl := hr6 j h1
    refine bsplit_of_true (decide_eq_true (by show (j : Int) < (x.own.length : Int); omega)) ?_
    refine ⟨{ p : Nat × List Int // p.1 ≤ (x.own.getD j []).length ∧ p.2.length ≤ 5 * j + p.1 ∧ dupS p.2 ((x.own.getD j []).drop p.1 ++ (x.own.drop (j + 1)).flatten) = d },
      fun p => ⟨frL [(0, polP x), (5, .row 64), (6, di j), (7, di p.1.1)], hpL [(64, .row 2 1 p.1.2.length (intsF p.1.2))], 96, 0⟩, fun p => (x.own.getD j []).length - p.1.1, ⟨(0, S), by omega, by show S.length ≤ 5 * j + 0; omega, hdup⟩,
      le_of [(64, 64)] rfl rfl rfl rfl (tellHp_row rfl rfl rfl (fun j hj => rfl) tellHp_nil) (tellFr_x rfl ⟨DLe.refl _, DLe.refl _, DLe.refl _, DLe.refl _, trivial⟩ (tellFr_row rfl rfl (tellFr_v rfl rfl (tellFr_v rfl rfl trivial)))), ?_⟩
    rintro ⟨⟨k, S2⟩, hk, hSl2, hdup2⟩
    simp only at hk hSl2 hdup2
    refine ask_intro ⟨by omega, by show (j : Int) < (x.own.length : Int); omega, rfl⟩ ?_
    by_cases h5 : k < (x.own.getD j []).length
    · rw [dup_step S2 _ k h5] at hdup2
      refine bsplit_of_true (decide_eq_true (by show (k : Int) < ((x.own.getD j []).length : Int); omega)) ?_
      refine ask_intro ⟨by omega, by show (j : Int) < (x.own.length : Int); omega, rfl⟩ ?_
      refine ask_intro ⟨by omega, by show (k : Int) < ((x.own.getD j []).length : Int); omega, rfl⟩ ?_
      refine .inl ⟨_, _, rfl, c_spec_l1Has S2 ((x.own.getD j []).getD k 0) (by omega), rfl, ?_⟩
      refine bsplit_intro (fun h6 => ?_) (fun h6 => ?_)
      · have h6 : hasI S2 ((x.own.getD j []).getD k 0) = true := h6
        rw [h6, Bool.true_or] at hdup2
        rw [← hdup2] at hv
        exact ⟨⟨congrArg (Value.int .i64) hv, trivial⟩, rfl⟩
      have h6 : hasI S2 ((x.own.getD j []).getD k 0) = false := h6
      rw [h6, Bool.false_or] at hdup2
      refine ask_intro ⟨by omega, by show (j : Int) < (x.own.length : Int); omega, rfl⟩ ?_
      refine ask_intro ⟨by omega, by show (k : Int) < ((x.own.getD j []).length : Int); omega, rfl⟩ ?_
      refine ask_intro ⟨by show (S2.length + 1) * 8 ≤ _; omega, by show S2.length + 1 ≤ 9223372036854775807; omega, fun q hq => ?_⟩ ?_
      · obtain rfl : q = 0 := by omega
        rfl
      refine ⟨⟨(k + 1, S2 ++ [(x.own.getD j []).getD k 0]), by show k + 1 ≤ _; omega, by simp; omega, hdup2⟩, le_of [(64, 8672)] rfl rfl rfl rfl (tellHp_row rfl rfl (show S2.length + 1 = (S2 ++ [_]).length by simp) (fun q hq => ?_) tellHp_nil) (tellFr_x rfl ⟨DLe.refl _, DLe.refl _, DLe.refl _, DLe.refl _, trivial⟩ (tellFr_row rfl rfl (tellFr_v rfl rfl (tellFr_v rfl (congrArg (Value.int .i64) (wrap1 h5 (by omega))) trivial)))), by show (x.own.getD j []).length - (k + 1) < (x.own.getD j []).length - k; omega⟩
      exact upto_snoc S2 _ _ rfl q hq
    · rw [List.drop_eq_nil_of_le (by omega)] at hdup2
      refine bsplit_of_false (decide_eq_false (by show ¬ (k : Int) < ((x.own.getD j []).length : Int); omega)) ?_
      refine ⟨⟨(j + 1, S2), by show j + 1 ≤ _; omega, by show S2.length ≤ 5 * (j + 1); omega, hdup2⟩, le_of [(64, 64)] rfl rfl rfl rfl (tellHp_row rfl rfl rfl (fun j hj => rfl) tellHp_nil) (tellFr_x rfl ⟨DLe.refl _, DLe.refl _, DLe.refl _, DLe.refl _, trivial⟩ (tellFr_row rfl rfl (tellFr_v rfl (congrArg (Value.int .i64) (wrap1 h1 (by omega))) trivial))), by show x.own.length - (j + 1) < x.own.length - j; omega⟩
  rw [List.drop_eq_nil_of_le (by omega)] at hdup
  have hdup : false = d := hdup
  rw [← hdup] at hv
  refine bsplit_of_false (decide_eq_false (by show ¬ (j : Int) < (x.own.length : Int); omega)) ?_
  exact ⟨⟨congrArg (Value.int .i64) hv, trivial⟩, rfl⟩
end Go.Proofs.YtojaakpnpdnbhaaDoor.L

/- What is wrong with a policy: the reference's contracts on lanes, bells and the plan. -/
set_option linter.unusedVariables false
set_option linter.unusedSimpArgs false
set_option maxRecDepth 100000
namespace Go.Proofs.YtojaakpnpdnbhaaDoor.L
open Go.RowKit
def lanesFault (x : PolM) : Int := bif decide (x.lns.length > 4) || decide (x.bls.length > 4) then 2 else lanesBad x.own [] x.lns
theorem getD_take {α : Type} (d : α) (l : List α) (i k : Nat) (h : k < i) : (l.take i).getD k d = l.getD k d := by simp [List.getD, List.getElem?_take, h]
set_option maxHeartbeats 1600000 in
theorem c_spec_l6Lanes (x : PolM) (hs : x.small) : FnOK Tryd.prog 28 [polP x] (ri (lanesFault x)) := by
  have hl := hs.lns
  generalize hv : lanesFault x = v
  unfold lanesFault at hv
  refine fn_of lv28 Tryd.func28 rfl rfl (by kernel_rfl) rfl ?_
  refine bsplit_intro (fun h1 => ?_) (fun h1 => ?_)
  · repeat' (first | refine bsplit_true ?_ | refine bsplit_false ?_)
    have h1 : decide ((x.lns.length : Int) > 4) = true := h1
    rw [show decide (x.lns.length > 4) = true from decide_eq_true (by have := of_decide_eq_true h1; omega), Bool.true_or, cond_true] at hv
    exact ⟨⟨congrArg (Value.int .i64) hv, trivial⟩, rfl⟩
  have h1 : decide ((x.lns.length : Int) > 4) = false := h1
  rw [show decide (x.lns.length > 4) = false from decide_eq_false (by have := of_decide_eq_false h1; omega), Bool.false_or] at hv
  repeat' (first | refine bsplit_true ?_ | refine bsplit_false ?_)
  refine bsplit_intro (fun h2 => ?_) (fun h2 => ?_)
  · have h2 : decide ((x.bls.length : Int) > 4) = true := h2
    rw [show decide (x.bls.length > 4) = true from decide_eq_true (by have := of_decide_eq_true h2; omega), cond_true] at hv
    exact ⟨⟨congrArg (Value.int .i64) hv, trivial⟩, rfl⟩
  have h2 : decide ((x.bls.length : Int) > 4) = false := h2
  rw [show decide (x.bls.length > 4) = false from decide_eq_false (by have := of_decide_eq_false h2; omega), cond_false] at hv
  refine ⟨{ i : Nat // i ≤ x.lns.length ∧ lanesBad x.own (x.lns.take i) (x.lns.drop i) = v }, fun i => ⟨frL [(0, polP x), (3, di i.1)], hpL [], 96, 0⟩, fun i => x.lns.length - i.1, ⟨0, by omega, hv⟩,
    le_of [] rfl rfl rfl rfl trivial (tellFr_x rfl ⟨DLe.refl _, DLe.refl _, DLe.refl _, DLe.refl _, trivial⟩ (tellFr_v rfl rfl trivial)), ?_⟩
  rintro ⟨i, hi, hall⟩
  by_cases h3 : i < x.lns.length
  rotate_left
  · rw [List.drop_eq_nil_of_le (by omega)] at hall
    refine bsplit_of_false (decide_eq_false (by show ¬ (i : Int) < (x.lns.length : Int); omega)) ?_
    exact ⟨⟨congrArg (Value.int .i64) hall, trivial⟩, rfl⟩
  rw [lanes_step _ _ _ h3] at hall
  have e9 : (x.lns.getD i ⟨0, 0, 0, 0, 0⟩) = x.lns.getD (i : Int).toNat ⟨0, 0, 0, 0, 0⟩ := rfl
  obtain ⟨m, hm⟩ : ∃ m, m = x.lns.getD i ⟨0, 0, 0, 0, 0⟩ := ⟨_, rfl⟩
  have c1 := c_spec_l6Ends x hs (x.lns.getD i ⟨0, 0, 0, 0, 0⟩).frm (x.lns.getD i ⟨0, 0, 0, 0, 0⟩).to
  have c2 := c_spec_l1In (x.lns.getD i ⟨0, 0, 0, 0, 0⟩).page 0 23
  have c3 := c_spec_l1In (x.lns.getD i ⟨0, 0, 0, 0, 0⟩).af 5 6
  have c4 := c_spec_l1In (x.lns.getD i ⟨0, 0, 0, 0, 0⟩).at_ 5 6
  have c5 := c_spec_l6Owner x hs (x.lns.getD i ⟨0, 0, 0, 0, 0⟩).page
  obtain ⟨b, hb⟩ : ∃ b, b = laneBad x.own (x.lns.getD i ⟨0, 0, 0, 0, 0⟩) (x.lns.take i) := ⟨_, rfl⟩
  rw [← hb] at hall
  unfold laneBad at hb
  generalize endsF x.own.length (x.lns.getD i ⟨0, 0, 0, 0, 0⟩).frm (x.lns.getD i ⟨0, 0, 0, 0, 0⟩).to = e at hb c1
  generalize inR (x.lns.getD i ⟨0, 0, 0, 0, 0⟩).page 0 23 = p1 at hb c2
  generalize inR (x.lns.getD i ⟨0, 0, 0, 0, 0⟩).af 5 6 = p2 at hb c3
  generalize inR (x.lns.getD i ⟨0, 0, 0, 0, 0⟩).at_ 5 6 = p3 at hb c4
  generalize ownerP x.own (x.lns.getD i ⟨0, 0, 0, 0, 0⟩).page = ow at hb c5
  have stop : ∀ r : Int, b = r → r ≠ 0 → r = v := fun r e1 e2 => by rw [e1, if_neg e2] at hall; exact hall
  refine bsplit_of_true (decide_eq_true (by show (i : Int) < (x.lns.length : Int); omega)) ?_
  refine ask_intro ⟨by omega, by show (i : Int) < (x.lns.length : Int); omega, rfl⟩ ?_
  refine .inl ⟨_, _, rfl, c1, rfl, ?_⟩
  refine bsplit_intro (fun h4 => ?_) (fun h4 => ?_)
  · have h4 : ¬ e = 0 := by simpa using h4
    rw [if_neg h4] at hb
    exact ⟨⟨congrArg (Value.int .i64) (stop e hb h4), trivial⟩, rfl⟩
  have h4 : e = 0 := by simpa using h4
  rw [if_pos h4] at hb
  by_cases hbad : (!p1 || (!p2 || !p3)) = true
  · rw [hbad, cond_true] at hb
    have h3v := stop 3 hb (by decide)
    refine .inl ⟨_, _, rfl, c2, rfl, ?_⟩
    repeat' (first | refine bsplit_true ?_ | refine bsplit_false ?_ | refine .inl ⟨_, _, rfl, c3, rfl, ?_⟩ | refine .inl ⟨_, _, rfl, c4, rfl, ?_⟩ | refine bsplit_intro (fun h => ?_) (fun h => ?_))
    all_goals first
      | exact ⟨⟨congrArg (Value.int .i64) h3v, trivial⟩, rfl⟩
      | (exfalso; clear hall hb c1 c2 c3 c4 c5; simp_all; done)
  have hbad : (!p1 || (!p2 || !p3)) = false := by simpa using hbad
  rw [hbad, cond_false] at hb
  obtain ⟨rfl, rfl, rfl⟩ : p1 = true ∧ p2 = true ∧ p3 = true := by cases p1 <;> cases p2 <;> cases p3 <;> simp_all
  refine .inl ⟨_, _, rfl, c2, rfl, ?_⟩
  repeat' (first | refine bsplit_true ?_ | refine bsplit_false ?_)
  refine .inl ⟨_, _, rfl, c3, rfl, ?_⟩
  repeat' (first | refine bsplit_true ?_ | refine bsplit_false ?_)
  refine .inl ⟨_, _, rfl, c4, rfl, ?_⟩
  repeat' (first | refine bsplit_true ?_ | refine bsplit_false ?_)
  refine .inl ⟨_, _, rfl, c5, rfl, ?_⟩
  refine bsplit_intro (fun h5 => ?_) (fun h5 => ?_)
  · have h5 : decide (ow ≥ 0) = true := h5
    rw [h5, Bool.true_or] at hb
    exact ⟨⟨congrArg (Value.int .i64) (stop 6 hb (by decide)), trivial⟩, rfl⟩
  have h5 : decide (ow ≥ 0) = false := h5
  rw [h5, Bool.false_or] at hb
  have hlt : (x.lns.take i).length = i := by rw [List.length_take]; omega
  refine ⟨{ k : Nat // k ≤ i ∧ ((x.lns.take i).drop k).any (clash (x.lns.getD i ⟨0, 0, 0, 0, 0⟩)) = (x.lns.take i).any (clash (x.lns.getD i ⟨0, 0, 0, 0, 0⟩)) },
    fun k => ⟨frL [(0, polP x), (3, di i), (4, .ptr 64 0), (6, di k.1)], hpL [(64, .box 56 [di (x.lns.getD i ⟨0, 0, 0, 0, 0⟩).frm, di (x.lns.getD i ⟨0, 0, 0, 0, 0⟩).to, di (x.lns.getD i ⟨0, 0, 0, 0, 0⟩).page, di (x.lns.getD i ⟨0, 0, 0, 0, 0⟩).af, di (x.lns.getD i ⟨0, 0, 0, 0, 0⟩).at_])], 96, 0⟩, fun k => i - k.1, ⟨0, by omega, by rw [List.drop_zero]⟩,
    le_of [(64, 4416)] rfl rfl rfl rfl (tellHp_box rfl rfl ⟨rfl, rfl, rfl, rfl, rfl, trivial⟩ tellHp_nil) (tellFr_x rfl ⟨DLe.refl _, DLe.refl _, DLe.refl _, DLe.refl _, trivial⟩ (tellFr_v rfl rfl (tellFr_ptr rfl rfl (tellFr_v rfl rfl trivial)))), ?_⟩
  rintro ⟨k, hk, hall2⟩
  by_cases h6 : k < i
  rotate_left
  · rw [List.drop_eq_nil_of_le (by omega)] at hall2
    rw [← hall2] at hb
    have hb : b = 0 := hb
    rw [if_pos hb] at hall
    refine bsplit_of_false (decide_eq_false (by show ¬ (k : Int) < (i : Int); omega)) ?_
    exact ⟨⟨i + 1, by omega, hall⟩, le_of [] rfl rfl rfl rfl trivial (tellFr_x rfl ⟨DLe.refl _, DLe.refl _, DLe.refl _, DLe.refl _, trivial⟩ (tellFr_v rfl (congrArg (Value.int .i64) (wrap1 h3 (by omega))) trivial)), by show x.lns.length - (i + 1) < x.lns.length - i; omega⟩
  rw [drop_anyG ⟨0, 0, 0, 0, 0⟩ _ _ k (by omega), getD_take _ _ _ _ h6] at hall2
  have d1 := c_spec_l6At (x.lns.getD k ⟨0, 0, 0, 0, 0⟩) (x.lns.getD i ⟨0, 0, 0, 0, 0⟩).frm (x.lns.getD i ⟨0, 0, 0, 0, 0⟩).af
  have d2 := c_spec_l6At (x.lns.getD k ⟨0, 0, 0, 0, 0⟩) (x.lns.getD i ⟨0, 0, 0, 0, 0⟩).to (x.lns.getD i ⟨0, 0, 0, 0, 0⟩).at_
  obtain ⟨q, hq⟩ : ∃ q, q = clash (x.lns.getD i ⟨0, 0, 0, 0, 0⟩) (x.lns.getD k ⟨0, 0, 0, 0, 0⟩) := ⟨_, rfl⟩
  rw [← hq] at hall2
  unfold clash at hq
  generalize sitsB (x.lns.getD k ⟨0, 0, 0, 0, 0⟩) (x.lns.getD i ⟨0, 0, 0, 0, 0⟩).frm (x.lns.getD i ⟨0, 0, 0, 0, 0⟩).af = s1 at hq d1
  generalize sitsB (x.lns.getD k ⟨0, 0, 0, 0, 0⟩) (x.lns.getD i ⟨0, 0, 0, 0, 0⟩).to (x.lns.getD i ⟨0, 0, 0, 0, 0⟩).at_ = s2 at hq d2
  have hit : q = true → 6 = v := fun e => by
    rw [e, Bool.true_or] at hall2
    rw [← hall2] at hb
    exact stop 6 hb (by decide)
  refine bsplit_of_true (decide_eq_true (by show (k : Int) < (i : Int); omega)) ?_
  refine ask_intro ⟨by omega, by show (k : Int) < (x.lns.length : Int); omega, rfl⟩ ?_
  cases q with
  | true =>
    have h6v := hit rfl
    repeat' (first | refine bsplit_true ?_ | refine bsplit_false ?_ | refine .inl ⟨_, _, rfl, d1, rfl, ?_⟩ | refine .inl ⟨_, _, rfl, d2, rfl, ?_⟩ | refine bsplit_intro (fun h => ?_) (fun h => ?_))
    all_goals first
      | exact ⟨⟨congrArg (Value.int .i64) h6v, trivial⟩, rfl⟩
      | (exfalso; clear hall hall2 hb hit c1 c2 c3 c4 c5 d1 d2; simp_all; done)
  | false =>
    rw [Bool.false_or] at hall2
    have hq := hq.symm
    rw [Bool.or_eq_false_iff, Bool.or_eq_false_iff] at hq
    obtain ⟨g1, rfl, rfl⟩ := hq
    refine bsplit_of_false g1 ?_
    repeat' (first | refine bsplit_true ?_ | refine bsplit_false ?_)
    refine .inl ⟨_, _, rfl, d1, rfl, ?_⟩
    repeat' (first | refine bsplit_true ?_ | refine bsplit_false ?_)
    refine .inl ⟨_, _, rfl, d2, rfl, ?_⟩
    repeat' (first | refine bsplit_true ?_ | refine bsplit_false ?_)
    exact ⟨⟨k + 1, by omega, hall2⟩, le_of [(64, 64)] rfl rfl rfl rfl (tellHp_box rfl rfl ⟨rfl, rfl, rfl, rfl, rfl, trivial⟩ tellHp_nil) (tellFr_x rfl ⟨DLe.refl _, DLe.refl _, DLe.refl _, DLe.refl _, trivial⟩ (tellFr_v rfl rfl (tellFr_ptr rfl rfl (tellFr_v rfl (congrArg (Value.int .i64) (wrap1 (Nat.lt_trans h6 h3) (by omega))) trivial)))), by show i - (k + 1) < i - k; omega⟩
end Go.Proofs.YtojaakpnpdnbhaaDoor.L

/- What is wrong with a policy: the reference's contracts, the whole. -/
set_option linter.unusedVariables false
set_option linter.unusedSimpArgs false
set_option maxRecDepth 100000
namespace Go.Proofs.YtojaakpnpdnbhaaDoor.L
open Go.RowKit
def restFault (x : PolM) : Int := if bellsBad x.own.length [] x.bls = 0 then planBad x.own.length x.pln else bellsBad x.own.length [] x.bls
set_option maxHeartbeats 1600000 in
theorem c_spec_l6Rest (x : PolM) (hs : x.small) : FnOK Tryd.prog 29 [polP x] (ri (restFault x)) := by
  have hl := hs.bls
  have hpl := hs.pln
  generalize hv : restFault x = v
  unfold restFault planBad at hv
  generalize hbc : bellsBad x.own.length [] x.bls = bc at hv
  generalize hpc : firstNZ (x.pln.map (slotBad x.own.length)) = pc at hv
  refine fn_of lv29 Tryd.func29 rfl rfl (by kernel_rfl) rfl ?_
  refine ⟨{ i : Nat // i ≤ x.bls.length ∧ bellsBad x.own.length (x.bls.take i) (x.bls.drop i) = bc }, fun i => ⟨frL [(0, polP x), (3, di i.1)], hpL [], 96, 0⟩, fun i => x.bls.length - i.1, ⟨0, by omega, hbc⟩,
    le_of [] rfl rfl rfl rfl trivial (tellFr_x rfl ⟨DLe.refl _, DLe.refl _, DLe.refl _, DLe.refl _, trivial⟩ (tellFr_v rfl rfl trivial)), ?_⟩
  rintro ⟨i, hi, hall⟩
  by_cases h3 : i < x.bls.length
  · rw [bells_step _ _ _ h3] at hall
    have c1 := c_spec_l6Ends x hs (x.bls.getD i ⟨0, 0⟩).frm (x.bls.getD i ⟨0, 0⟩).to
    obtain ⟨b, hb⟩ : ∃ b, b = bellBad x.own.length (x.bls.getD i ⟨0, 0⟩) (x.bls.take i) := ⟨_, rfl⟩
    rw [← hb] at hall
    unfold bellBad at hb
    generalize endsF x.own.length (x.bls.getD i ⟨0, 0⟩).frm (x.bls.getD i ⟨0, 0⟩).to = e at hb c1
    have stop : ∀ r : Int, b = r → r ≠ 0 → r = v := fun r e1 e2 => by
      rw [e1, if_neg e2] at hall
      rw [if_neg (by rw [← hall]; exact e2), ← hall] at hv
      exact hv
    refine bsplit_of_true (decide_eq_true (by show (i : Int) < (x.bls.length : Int); omega)) ?_
    refine ask_intro ⟨by omega, by show (i : Int) < (x.bls.length : Int); omega, rfl⟩ ?_
    refine .inl ⟨_, _, rfl, c1, rfl, ?_⟩
    refine bsplit_intro (fun h4 => ?_) (fun h4 => ?_)
    · have h4 : ¬ e = 0 := by simpa using h4
      rw [if_neg h4] at hb
      exact ⟨⟨congrArg (Value.int .i64) (stop e hb h4), trivial⟩, rfl⟩
    have h4 : e = 0 := by simpa using h4
    rw [if_pos h4] at hb
    have hlt : (x.bls.take i).length = i := by rw [List.length_take]; omega
    refine ⟨{ k : Nat // k ≤ i ∧ ((x.bls.take i).drop k).any (fun a => a == x.bls.getD i ⟨0, 0⟩) = (x.bls.take i).any (fun a => a == x.bls.getD i ⟨0, 0⟩) },
      fun k => ⟨frL [(0, polP x), (3, di i), (4, .ptr 64 0), (6, di k.1)], hpL [(64, .box 58 [di (x.bls.getD i ⟨0, 0⟩).frm, di (x.bls.getD i ⟨0, 0⟩).to])], 96, 0⟩, fun k => i - k.1, ⟨0, by omega, by rw [List.drop_zero]⟩,
      le_of [(64, 4416)] rfl rfl rfl rfl (tellHp_box rfl rfl ⟨rfl, rfl, trivial⟩ tellHp_nil) (tellFr_x rfl ⟨DLe.refl _, DLe.refl _, DLe.refl _, DLe.refl _, trivial⟩ (tellFr_v rfl rfl (tellFr_ptr rfl rfl (tellFr_v rfl rfl trivial)))), ?_⟩
    rintro ⟨k, hk, hall2⟩
    by_cases h6 : k < i
    rotate_left
    · rw [List.drop_eq_nil_of_le (by omega)] at hall2
      rw [← hall2] at hb
      have hb : b = 0 := hb
      rw [if_pos hb] at hall
      refine bsplit_of_false (decide_eq_false (by show ¬ (k : Int) < (i : Int); omega)) ?_
      exact ⟨⟨i + 1, by omega, hall⟩, le_of [] rfl rfl rfl rfl trivial (tellFr_x rfl ⟨DLe.refl _, DLe.refl _, DLe.refl _, DLe.refl _, trivial⟩ (tellFr_v rfl (congrArg (Value.int .i64) (wrap1 h3 (by omega))) trivial)), by show x.bls.length - (i + 1) < x.bls.length - i; omega⟩
    rw [drop_anyG ⟨0, 0⟩ _ _ k (by omega), getD_take _ _ _ _ h6] at hall2
    have hq : ([(x.bls.getD k ⟨0, 0⟩).frm, (x.bls.getD k ⟨0, 0⟩).to] == [(x.bls.getD i ⟨0, 0⟩).frm, (x.bls.getD i ⟨0, 0⟩).to]) = (x.bls.getD k ⟨0, 0⟩ == x.bls.getD i ⟨0, 0⟩) := by
      have := congrFun (bellBeq (x.bls.getD k ⟨0, 0⟩)) (x.bls.getD i ⟨0, 0⟩)
      rw [this]
      by_cases h : x.bls.getD i ⟨0, 0⟩ = x.bls.getD k ⟨0, 0⟩
      · rw [h]
      · rw [beq_eq_false_iff_ne.2 h, beq_eq_false_iff_ne.2 (Ne.symm h)]
    rw [← hq] at hall2
    refine bsplit_of_true (decide_eq_true (by show (k : Int) < (i : Int); omega)) ?_
    refine ask_intro ⟨by omega, by show (k : Int) < (x.bls.length : Int); omega, rfl⟩ ?_
    refine chk_intro (by kernel_rfl) ?_
    refine bsplit_intro (fun h7 => ?_) (fun h7 => ?_)
    · rw [show ([(x.bls.getD k ⟨0, 0⟩).frm, (x.bls.getD k ⟨0, 0⟩).to] == [(x.bls.getD i ⟨0, 0⟩).frm, (x.bls.getD i ⟨0, 0⟩).to]) = true from h7, Bool.true_or] at hall2
      rw [← hall2] at hb
      exact ⟨⟨congrArg (Value.int .i64) (stop 6 hb (by decide)), trivial⟩, rfl⟩
    · rw [show ([(x.bls.getD k ⟨0, 0⟩).frm, (x.bls.getD k ⟨0, 0⟩).to] == [(x.bls.getD i ⟨0, 0⟩).frm, (x.bls.getD i ⟨0, 0⟩).to]) = false from h7, Bool.false_or] at hall2
      exact ⟨⟨k + 1, by omega, hall2⟩, le_of [(64, 64)] rfl rfl rfl rfl (tellHp_box rfl rfl ⟨rfl, rfl, trivial⟩ tellHp_nil) (tellFr_x rfl ⟨DLe.refl _, DLe.refl _, DLe.refl _, DLe.refl _, trivial⟩ (tellFr_v rfl rfl (tellFr_ptr rfl rfl (tellFr_v rfl (congrArg (Value.int .i64) (wrap1 (Nat.lt_trans h6 h3) (by omega))) trivial)))), by show i - (k + 1) < i - k; omega⟩
  rw [List.drop_eq_nil_of_le (by omega)] at hall
  have hall : 0 = bc := hall
  rw [if_pos hall.symm] at hv
  refine bsplit_of_false (decide_eq_false (by show ¬ (i : Int) < (x.bls.length : Int); omega)) ?_
  refine bsplit_intro (fun h => ?_) (fun h => ?_)
  · repeat' (first | refine bsplit_true ?_ | refine bsplit_false ?_)
    have h : decide ((x.pln.length : Int) < 1) = true := h
    rw [show inR (x.pln.length : Int) 1 8 = false from by unfold inR; have := of_decide_eq_true h; simp; omega] at hv
    exact ⟨⟨congrArg (Value.int .i64) hv, trivial⟩, rfl⟩
  repeat' (first | refine bsplit_true ?_ | refine bsplit_false ?_)
  refine bsplit_intro (fun h2 => ?_) (fun h2 => ?_)
  · have h2 : decide ((x.pln.length : Int) > 8) = true := h2
    rw [show inR (x.pln.length : Int) 1 8 = false from by unfold inR; have := of_decide_eq_true h2; simp; omega] at hv
    exact ⟨⟨congrArg (Value.int .i64) hv, trivial⟩, rfl⟩
  have hn1 : ¬ (x.pln.length : Int) < 1 := of_decide_eq_false h
  have hn2 : ¬ (x.pln.length : Int) > 8 := of_decide_eq_false h2
  rw [show inR (x.pln.length : Int) 1 8 = true from inR_iff.2 ⟨by omega, by omega⟩] at hv
  have hv : pc = v := hv
  refine ⟨{ i : Nat // i ≤ x.pln.length ∧ firstNZ ((x.pln.drop i).map (slotBad x.own.length)) = v }, fun i => ⟨frL [(0, polP x), (7, di i.1)], hpL [], 96, 0⟩, fun i => x.pln.length - i.1, ⟨0, by omega, by rw [← hv, ← hpc]; rfl⟩,
    le_of [] rfl rfl rfl rfl trivial (tellFr_x rfl ⟨DLe.refl _, DLe.refl _, DLe.refl _, DLe.refl _, trivial⟩ (tellFr_v rfl rfl trivial)), ?_⟩
  rintro ⟨j, hj, hall3⟩
  by_cases h1 : j < x.pln.length
  · rw [map_drop ⟨0, 0⟩ _ _ _ h1] at hall3
    refine bsplit_of_true (decide_eq_true (by show (j : Int) < (x.pln.length : Int); omega)) ?_
    refine ask_intro ⟨by omega, by show (j : Int) < (x.pln.length : Int); omega, rfl⟩ ?_
    refine .inl ⟨_, _, rfl, c_spec_l6Guest x hs (x.pln.getD j ⟨0, 0⟩).guest, rfl, ?_⟩
    refine bsplit_intro (fun h2 => ?_) (fun h2 => ?_)
    · have e : slotBad x.own.length (x.pln.getD j ⟨0, 0⟩) = 4 := by
        unfold slotBad
        rw [show (!guestB x.own.length (x.pln.getD j ⟨0, 0⟩).guest) = true from h2]; rfl
      rw [e] at hall3
      exact ⟨⟨congrArg (Value.int .i64) hall3, trivial⟩, rfl⟩
    refine ask_intro ⟨by omega, by show (j : Int) < (x.pln.length : Int); omega, rfl⟩ ?_
    refine .inl ⟨_, _, rfl, c_spec_l1In (x.pln.getD j ⟨0, 0⟩).steps 1 50, rfl, ?_⟩
    refine bsplit_intro (fun h3 => ?_) (fun h3 => ?_)
    · have e : slotBad x.own.length (x.pln.getD j ⟨0, 0⟩) = 3 := by
        unfold slotBad
        rw [show (!guestB x.own.length (x.pln.getD j ⟨0, 0⟩).guest) = false from h2, show (!inR (x.pln.getD j ⟨0, 0⟩).steps 1 50) = true from h3]; rfl
      rw [e] at hall3
      exact ⟨⟨congrArg (Value.int .i64) hall3, trivial⟩, rfl⟩
    have e : slotBad x.own.length (x.pln.getD j ⟨0, 0⟩) = 0 := by
      unfold slotBad
      rw [show (!guestB x.own.length (x.pln.getD j ⟨0, 0⟩).guest) = false from h2, show (!inR (x.pln.getD j ⟨0, 0⟩).steps 1 50) = false from h3]; rfl
    rw [e] at hall3
    exact ⟨⟨j + 1, by omega, hall3⟩, le_of [] rfl rfl rfl rfl trivial (tellFr_x rfl ⟨DLe.refl _, DLe.refl _, DLe.refl _, DLe.refl _, trivial⟩ (tellFr_v rfl (congrArg (Value.int .i64) (wrap1 h1 (by omega))) trivial)), by show x.pln.length - (j + 1) < x.pln.length - j; omega⟩
  · rw [List.drop_eq_nil_of_le (by omega)] at hall3
    refine bsplit_of_false (decide_eq_false (by show ¬ (j : Int) < (x.pln.length : Int); omega)) ?_
    exact ⟨⟨congrArg (Value.int .i64) hall3, trivial⟩, rfl⟩
theorem c_spec_l6Fault (x : PolM) (hs : x.small) : FnOK Tryd.prog 14 [polP x] (ri (polFault x)) := by
  have c1 := c_spec_l6Owns x hs
  have c2 := c_spec_l6Lanes x hs
  have c3 := c_spec_l6Rest x hs
  generalize hv : polFault x = v
  have hv : (if ownBad x.own = 0 then (if lanesFault x = 0 then restFault x else lanesFault x) else ownBad x.own) = v := by
    rw [← hv]
    unfold polFault lanesFault restFault
    cases (decide (x.lns.length > 4) || decide (x.bls.length > 4)) with
    | true => simp
    | false => rfl
  generalize ownBad x.own = e1 at *
  generalize lanesFault x = e2 at *
  generalize restFault x = e3 at *
  refine fn_of lv14 Tryd.func14 rfl rfl (by kernel_rfl) rfl ?_
  refine .inl ⟨_, _, rfl, c1, rfl, ?_⟩
  refine bsplit_intro (fun h => ?_) (fun h => ?_)
  · rw [if_neg (by simpa using h)] at hv
    exact ⟨⟨congrArg (Value.int .i64) hv, trivial⟩, rfl⟩
  rw [if_pos (by simpa using h)] at hv
  refine .inl ⟨_, _, rfl, c2, rfl, ?_⟩
  refine bsplit_intro (fun h2 => ?_) (fun h2 => ?_)
  · rw [if_neg (by simpa using h2)] at hv
    exact ⟨⟨congrArg (Value.int .i64) hv, trivial⟩, rfl⟩
  rw [if_pos (by simpa using h2)] at hv
  refine .inl ⟨_, _, rfl, c3, rfl, ?_⟩
  exact ⟨⟨congrArg (Value.int .i64) hv, trivial⟩, rfl⟩
end Go.Proofs.YtojaakpnpdnbhaaDoor.L

/- The law functions over policies answer true. -/
set_option linter.unusedVariables false
set_option linter.unusedSimpArgs false
set_option maxRecDepth 100000
namespace Go.Proofs.YtojaakpnpdnbhaaDoor.L
open Go.RowKit Go.ChangeShapes Go.WideShapes Go.ChangeAt
theorem reads_owns : ReadsT Tryd.prog 22 1 (List (List Int)) (fun l => [owns l]) (fun l => l.length * 24 ≤ reachBytes ∧ ∀ x ∈ l, okInts x) := ReadsT.slice reads_ints Tryd.underlying22 (by kernel_rfl) (by decide) [] (by kernel_rfl)
theorem reads_Lane : ReadsT Tryd.prog 68 5 LaneM laneD (fun p => ok64 p.frm ∧ ok64 p.to ∧ ok64 p.page ∧ ok64 p.af ∧ ok64 p.at_) :=
  (ReadsT.struct (ok := _) Tryd.underlying68 (by kernel_rfl) (ReadsL.cons reads_int64 (.cons reads_int64 (.cons reads_int64 (.cons reads_int64 (.cons reads_int64 (.nil 5))))))).map (fun m => ⟨m.1, m.2.1, m.2.2.1, m.2.2.2.1, m.2.2.2.2.1⟩) (fun m h => ⟨⟨h.1, h.2.1, h.2.2.1, h.2.2.2.1, h.2.2.2.2.1⟩, rfl⟩)
theorem reads_lanes : ReadsT Tryd.prog 23 1 (List LaneM) (fun l => [lanes l]) (fun l => l.length * 40 ≤ reachBytes ∧ ∀ p ∈ l, ok64 p.frm ∧ ok64 p.to ∧ ok64 p.page ∧ ok64 p.af ∧ ok64 p.at_) := ReadsT.slice reads_Lane Tryd.underlying23 (by kernel_rfl) (by decide) ⟨0, 0, 0, 0, 0⟩ (by kernel_rfl)
theorem reads_Bell : ReadsT Tryd.prog 70 2 BellM bellD (fun p => ok64 p.frm ∧ ok64 p.to) :=
  (ReadsT.struct (ok := _) Tryd.underlying70 (by kernel_rfl) (ReadsL.cons reads_int64 (.cons reads_int64 (.nil 2)))).map (fun m => ⟨m.1, m.2.1⟩) (fun m h => ⟨⟨h.1, h.2.1⟩, rfl⟩)
theorem reads_bells : ReadsT Tryd.prog 24 1 (List BellM) (fun l => [bells l]) (fun l => l.length * 16 ≤ reachBytes ∧ ∀ p ∈ l, ok64 p.frm ∧ ok64 p.to) := ReadsT.slice reads_Bell Tryd.underlying24 (by kernel_rfl) (by decide) ⟨0, 0⟩ (by kernel_rfl)
theorem reads_Slot : ReadsT Tryd.prog 72 2 SlotM slotD (fun p => ok64 p.guest ∧ ok64 p.steps) :=
  (ReadsT.struct (ok := _) Tryd.underlying72 (by kernel_rfl) (ReadsL.cons reads_int64 (.cons reads_int64 (.nil 2)))).map (fun m => ⟨m.1, m.2.1⟩) (fun m h => ⟨⟨h.1, h.2.1⟩, rfl⟩)
theorem reads_slots : ReadsT Tryd.prog 25 1 (List SlotM) (fun l => [slots l]) (fun l => l.length * 16 ≤ reachBytes ∧ ∀ p ∈ l, ok64 p.guest ∧ ok64 p.steps) := ReadsT.slice reads_Slot Tryd.underlying25 (by kernel_rfl) (by decide) ⟨0, 0⟩ (by kernel_rfl)
structure PolM.ok (x : PolM) : Prop where
  own : x.own.length * 24 ≤ reachBytes ∧ ∀ r ∈ x.own, okInts r
  lns : x.lns.length * 40 ≤ reachBytes ∧ ∀ p ∈ x.lns, ok64 p.frm ∧ ok64 p.to ∧ ok64 p.page ∧ ok64 p.af ∧ ok64 p.at_
  bls : x.bls.length * 16 ≤ reachBytes ∧ ∀ p ∈ x.bls, ok64 p.frm ∧ ok64 p.to
  pln : x.pln.length * 16 ≤ reachBytes ∧ ∀ p ∈ x.pln, ok64 p.guest ∧ ok64 p.steps
theorem PolM.ok.small {x : PolM} (h : x.ok) : x.small := by
  have e := reach_eq
  have a := h.own.1
  have b := h.lns.1
  have c := h.bls.1
  have d := h.pln.1
  refine ⟨by omega, fun i hi => ?_, by omega, by omega, by omega⟩
  have := (h.own.2 (x.own.getD i []) (by rw [getD_at _ hi]; exact List.getElem_mem hi)).1
  omega
theorem reads_Policy : ReadsT Tryd.prog 27 4 PolM polD PolM.ok :=
  (ReadsT.struct (ok := _) Tryd.underlying27 (by kernel_rfl) (ReadsL.cons reads_owns (.cons reads_lanes (.cons reads_bells (.cons reads_slots (.nil 4)))))).map (fun m => ⟨m.1, m.2.1, m.2.2.1, m.2.2.2.1⟩) (fun m h => ⟨⟨h.1, h.2.1, h.2.2.1, h.2.2.2.1⟩, rfl⟩)
theorem szP_of {x : PolM} {q : Int} (h : decide (szP x q < 0) = false) : (x.size : Int) ≤ q := by
  have h := of_decide_eq_false h
  unfold szP at h
  split at h <;> omega
end Go.Proofs.YtojaakpnpdnbhaaDoor.L

/- The text of a policy: contracts. -/
set_option linter.unusedVariables false
set_option linter.unusedSimpArgs false
set_option maxRecDepth 100000
namespace Go.Proofs.YtojaakpnpdnbhaaDoor.L
open Go.RowKit
theorem sz_okp {a b : ByteArray} (h : a.size + b.size ≤ 9000000000000000000) : ((a.size + b.size : Nat) : Int) ≤ 9223372036854775807 := by omega
abbrev few3 (l : List Int) : Prop := ∀ x ∈ l, 0 ≤ x ∧ x ≤ 999
theorem few3.f32 {l : List Int} (h : few3 l) : few32 l := fun x hx => by have := h x hx; omega
structure PolFew (x : PolM) : Prop where
  own : 1 ≤ x.own.length ∧ x.own.length ≤ 3
  row : ∀ l ∈ x.own, 1 ≤ l.length ∧ l.length ≤ 5 ∧ few3 l
  lns : x.lns.length ≤ 4
  lane : ∀ m ∈ x.lns, few3 [m.frm, m.to, m.page, m.af, m.at_]
  bls : x.bls.length ≤ 4
  bell : ∀ b ∈ x.bls, few3 [b.frm, b.to]
  pln : 1 ≤ x.pln.length ∧ x.pln.length ≤ 8
  slot : ∀ s ∈ x.pln, few3 [s.guest, s.steps]
theorem pf_bif {b : Bool} {x : Int} {n : Int} (h : (bif b then n else x) = 0) (hn : n ≠ 0) : b = false ∧ x = 0 := by cases b <;> simp_all
theorem pf_if {a x : Int} (h : (if a = 0 then x else a) = 0) : a = 0 ∧ x = 0 := by
  split at h
  · exact ⟨by assumption, h⟩
  · rename_i e; exact absurd h e
theorem pf_ends {n : Nat} (hn : n ≤ 3) {a b : Int} (h : endsF n a b = 0) : (0 ≤ a ∧ a ≤ 999) ∧ 0 ≤ b ∧ b ≤ 999 := by
  unfold endsF at h
  obtain ⟨h1, _⟩ := pf_bif h (by decide)
  simp only [Bool.or_eq_false_iff, Bool.not_eq_eq_eq_not, Bool.not_false] at h1
  have q1 := inR_iff.1 (show inR a 0 _ = true from h1.1)
  have q2 := inR_iff.1 (show inR b 0 _ = true from h1.2)
  omega
theorem pf_lanes {own : List (List Int)} (ho : own.length ≤ 3) : ∀ {l ah : List LaneM}, lanesBad own ah l = 0 → ∀ m ∈ l, few3 [m.frm, m.to, m.page, m.af, m.at_]
  | [], _, _, _, hm => by cases hm
  | z :: l, ah, h, m, hm => by
    unfold lanesBad at h
    obtain ⟨h1, h2⟩ := pf_if h
    rcases List.mem_cons.1 hm with rfl | hm
    · unfold laneBad at h1
      obtain ⟨h3, h4⟩ := pf_if h1
      obtain ⟨h5, _⟩ := pf_bif h4 (by decide)
      simp only [Bool.or_eq_false_iff, Bool.not_eq_eq_eq_not, Bool.not_false] at h5
      have e := pf_ends ho h3
      have p1 := inR_iff.1 h5.1
      have p2 := inR_iff.1 h5.2.1
      have p3 := inR_iff.1 h5.2.2
      intro y hy
      simp only [List.mem_cons, List.not_mem_nil, or_false] at hy
      rcases hy with rfl | rfl | rfl | rfl | rfl <;> omega
    · exact pf_lanes ho h2 m hm
theorem pf_bells {n : Nat} (ho : n ≤ 3) : ∀ {l ah : List BellM}, bellsBad n ah l = 0 → ∀ m ∈ l, few3 [m.frm, m.to]
  | [], _, _, _, hm => by cases hm
  | z :: l, ah, h, m, hm => by
    unfold bellsBad at h
    obtain ⟨h1, h2⟩ := pf_if h
    rcases List.mem_cons.1 hm with rfl | hm
    · unfold bellBad at h1
      obtain ⟨h3, h4⟩ := pf_if h1
      have e := pf_ends ho h3
      intro y hy
      simp only [List.mem_cons, List.not_mem_nil, or_false] at hy
      rcases hy with rfl | rfl <;> omega
    · exact pf_bells ho h2 m hm
theorem pol_fewT {x : PolM} (h : polFault x = 0) : PolFew x := by
  unfold polFault at h
  obtain ⟨h1, h⟩ := pf_if h
  obtain ⟨h2, h⟩ := pf_bif h (by decide)
  obtain ⟨h3, h⟩ := pf_if h
  obtain ⟨h4, h⟩ := pf_if h
  simp only [Bool.or_eq_false_iff, decide_eq_false_iff_not] at h2
  unfold ownBad at h1
  obtain ⟨o1, h1⟩ := pf_bif h1 (by decide)
  obtain ⟨o2, _⟩ := pf_if h1
  have o1 := inR_iff.1 (show inR (x.own.length : Int) 1 3 = true by simpa using o1)
  unfold planBad at h
  obtain ⟨p1, h⟩ := pf_bif h (by decide)
  have p1 := inR_iff.1 (show inR (x.pln.length : Int) 1 8 = true by simpa using p1)
  refine ⟨by omega, fun l hl => ?_, by omega, pf_lanes (by omega) h3, by omega, pf_bells (by omega) h4, by omega, fun s hs => ?_⟩
  · have hr := firstNZ_all o2 (rowBad l) (List.mem_map.2 ⟨_, hl, rfl⟩)
    unfold rowBad at hr
    obtain ⟨r1, hr⟩ := pf_bif hr (by decide)
    obtain ⟨r2, _⟩ := pf_bif hr (by decide)
    have r1 := inR_iff.1 (show inR (l.length : Int) 1 5 = true by simpa using r1)
    have r2 : l.all in23 = true := by simpa only [Bool.not_eq_false'] using r2
    refine ⟨by omega, by omega, fun y hy => ?_⟩
    have := inR_iff.1 (show inR y 0 23 = true from List.all_eq_true.1 r2 y hy)
    omega
  · have hr := firstNZ_all h (slotBad x.own.length s) (List.mem_map.2 ⟨_, hs, rfl⟩)
    unfold slotBad at hr
    obtain ⟨r1, hr⟩ := pf_bif hr (by decide)
    obtain ⟨r2, _⟩ := pf_bif hr (by decide)
    have r1 := inR_iff.1 (show inR s.guest 0 _ = true by simpa [guestB] using r1)
    have r2 := inR_iff.1 (show inR s.steps 1 50 = true by simpa using r2)
    intro y hy
    simp only [List.mem_cons, List.not_mem_nil, or_false] at hy
    rcases hy with rfl | rfl <;> omega
abbrev wOwn : List UInt8 := [111, 119, 110]
abbrev wLane : List UInt8 := [108, 97, 110, 101]
abbrev wBell : List UInt8 := [98, 101, 108, 108]
abbrev wSlot : List UInt8 := [115, 108, 111, 116]
abbrev fOwn (l : List Int) : List UInt8 := lineT wOwn l
abbrev fLane (m : LaneM) : List UInt8 := lineT wLane [m.frm, m.to, m.page, m.af, m.at_]
abbrev fBell (m : BellM) : List UInt8 := lineT wBell [m.frm, m.to]
abbrev fSlot (m : SlotM) : List UInt8 := lineT wSlot [m.guest, m.steps]
theorem flat_snoc {α : Type} (d : α) (f : α → List UInt8) (l : List α) (i : Nat) (h : i < l.length) : (l.take (i + 1)).flatMap f = (l.take i).flatMap f ++ f (l.getD i d) := by
  rw [List.take_succ_eq_append_getElem h, getD_at d h, List.flatMap_append, List.flatMap_cons, List.flatMap_nil, List.append_nil]
theorem flat_len0 {α : Type} (f : α → List UInt8) (B : Nat) : ∀ (l : List α), (∀ m ∈ l, (f m).length ≤ B) → (l.flatMap f).length ≤ l.length * B
  | [], _ => by simp
  | x :: l, h => by
    have h1 := h x (.head _)
    have h2 := flat_len0 f B l (fun m hm => h m (.tail _ hm))
    rw [List.flatMap_cons, List.length_append, List.length_cons, Nat.succ_mul]
    omega
theorem flat_len {α : Type} (f : α → List UInt8) (l : List α) (i : Nat) (h : ∀ m ∈ l, (f m).length ≤ 50000000000) (hl : l.length ≤ 8) : ((l.take i).flatMap f).length ≤ 400000000000 := by
  have h1 := flat_len0 f 50000000000 (l.take i) (fun m hm => h m (List.mem_of_mem_take hm))
  have h2 : (l.take i).length ≤ 8 := by rw [List.length_take]; omega
  have h3 := Nat.mul_le_mul_right 50000000000 h2
  exact Nat.le_trans h1 h3
theorem mem_getD {α : Type} (d : α) {l : List α} {i : Nat} (h : i < l.length) : l.getD i d ∈ l := by rw [getD_at d h]; exact List.getElem_mem h
def polT (x : PolM) : List UInt8 := x.own.flatMap fOwn ++ x.lns.flatMap fLane ++ x.bls.flatMap fBell ++ x.pln.flatMap fSlot
theorem lineT_few (w : List UInt8) (hw : w.length ≤ 10) {l : List Int} (h : few3 l) (hl : l.length ≤ 9) : (lineT w l).length ≤ 50000000000 := by
  have := lineT_len w h.f32
  omega
def formatPolicy (x : PolM) : Int × List UInt8 := if polFault x = 0 then (0, polT x) else (polFault x, [])
abbrev trR (p : Int × List UInt8) : RV1 := .agg [.v (.int .i64 p.1), .v (.string (tx p.2))]
abbrev trLV (p : Int × List UInt8) : LV := .agg [di p.1, dT p.2]
theorem c_laws_eqTextResult (p : Int × List UInt8) : FnOK Tryd.prog 8 [trLV p, trLV p] (rb true) := by
  refine fn_of lv8 Tryd.func8 rfl rfl (by kernel_rfl) rfl ?_
  refine bsplit_of_false (show (p.1 != p.1) = false by simp) ?_
  refine bsplit_of_false (show (!((tx p.2).toList == (tx p.2).toList)) = false by simp) ?_
  exact ⟨⟨rfl, trivial⟩, rfl⟩
set_option maxHeartbeats 3200000 in
theorem c_impl_FormatPolicy (x : PolM) (hs : x.small) : FnOK Tryd.prog 7 [polLV x] (.r (trR (formatPolicy x))) := by
  have c1 := c_impl_PolicyFault x hs
  obtain ⟨r, hr⟩ : ∃ r, r = formatPolicy x := ⟨_, rfl⟩
  rw [← hr]
  unfold formatPolicy at hr
  by_cases h : polFault x = 0
  rotate_left
  · rw [if_neg h] at hr
    subst hr
    generalize polFault x = e at *
    refine fn_of lv7 Tryd.func7 rfl rfl (by kernel_rfl) rfl ?_
    refine .inl ⟨_, _, rfl, c1, rfl, ?_⟩
    refine bsplit_of_true (by simpa using h) ?_
    exact ⟨⟨rfl, rfl, trivial⟩, rfl⟩
  have hp := pol_fewT h
  rw [if_pos h] at hr
  rw [h] at c1
  have hfo : ∀ l ∈ x.own, (fOwn l).length ≤ 50000000000 := fun l hl => lineT_few _ (by decide) (hp.row l hl).2.2 (by have := (hp.row l hl).2.1; omega)
  have hlns : ∀ m ∈ x.lns, (fLane m).length ≤ 50000000000 := fun m hm => lineT_few _ (by decide) (hp.lane m hm) (by simp)
  have hbls : ∀ m ∈ x.bls, (fBell m).length ≤ 50000000000 := fun m hm => lineT_few _ (by decide) (hp.bell m hm) (by simp)
  have hpln : ∀ m ∈ x.pln, (fSlot m).length ≤ 50000000000 := fun m hm => lineT_few _ (by decide) (hp.slot m hm) (by simp)
  have nown : x.own.length ≤ 8 := by have := hp.own; omega
  have town := fun i => flat_len fOwn x.own i hfo nown
  have cown := fun i (h : i < x.own.length) => c_impl_numbered wOwn (x.own.getD i []) (by decide) (by have := (hp.row _ (mem_getD [] h)).2.1; omega) (hp.row _ (mem_getD [] h)).2.2.f32
  have nlns : x.lns.length ≤ 8 := by have := hp.lns; omega
  have tlns := fun i => flat_len fLane x.lns i hlns nlns
  have clns := fun i (h : i < x.lns.length) => c_impl_numbered wLane [(x.lns.getD i ⟨0, 0, 0, 0, 0⟩).frm, (x.lns.getD i ⟨0, 0, 0, 0, 0⟩).to, (x.lns.getD i ⟨0, 0, 0, 0, 0⟩).page, (x.lns.getD i ⟨0, 0, 0, 0, 0⟩).af, (x.lns.getD i ⟨0, 0, 0, 0, 0⟩).at_] (by decide) (by simp) (hp.lane _ (mem_getD ⟨0, 0, 0, 0, 0⟩ h)).f32
  have nbls : x.bls.length ≤ 8 := by have := hp.bls; omega
  have tbls := fun i => flat_len fBell x.bls i hbls nbls
  have cbls := fun i (h : i < x.bls.length) => c_impl_numbered wBell [(x.bls.getD i ⟨0, 0⟩).frm, (x.bls.getD i ⟨0, 0⟩).to] (by decide) (by simp) (hp.bell _ (mem_getD ⟨0, 0⟩ h)).f32
  have npln : x.pln.length ≤ 8 := by have := hp.pln; omega
  have tpln := fun i => flat_len fSlot x.pln i hpln npln
  have cpln := fun i (h : i < x.pln.length) => c_impl_numbered wSlot [(x.pln.getD i ⟨0, 0⟩).guest, (x.pln.getD i ⟨0, 0⟩).steps] (by decide) (by simp) (hp.slot _ (mem_getD ⟨0, 0⟩ h)).f32
  obtain ⟨A0, hA0⟩ : ∃ A : Nat → List UInt8, A = fun i => (x.own.take i).flatMap fOwn := ⟨_, rfl⟩
  have lA0 : ∀ i, (A0 i).length ≤ 400000000000 := fun i => by
    have := town i
    rw [hA0]
    simp only [List.length_append]
    omega
  have sA0 : ∀ i, i < x.own.length → tx (A0 i) ++ tx (fOwn (x.own.getD i [])) = tx (A0 (i + 1)) := fun i h => by
    rw [hA0, tx_app]
    show tx (_ ++ _) = tx (_)
    simp only [flat_snoc [] fOwn x.own i h, List.append_assoc]
  have zA0 : ∀ i, i < x.own.length → (((tx (A0 i)).size + (tx (fOwn (x.own.getD i []))).size : Nat) : Int) ≤ 9223372036854775807 := fun i h => sz_okp (by
    have q1 := lA0 i
    have q2 := hfo _ (mem_getD [] h)
    simp only [tx_size]
    omega)
  have eA0 : ([] : List UInt8) = A0 0 := by rw [hA0]; simp
  obtain ⟨A1, hA1⟩ : ∃ A : Nat → List UInt8, A = fun i => A0 x.own.length ++ (x.lns.take i).flatMap fLane := ⟨_, rfl⟩
  have lA1 : ∀ i, (A1 i).length ≤ 800000000000 := fun i => by
    have q := lA0 x.own.length; have := tlns i
    rw [hA1]
    simp only [List.length_append]
    omega
  have sA1 : ∀ i, i < x.lns.length → tx (A1 i) ++ tx (fLane (x.lns.getD i ⟨0, 0, 0, 0, 0⟩)) = tx (A1 (i + 1)) := fun i h => by
    rw [hA1, tx_app]
    show tx (_ ++ _) = tx (_)
    simp only [flat_snoc ⟨0, 0, 0, 0, 0⟩ fLane x.lns i h, List.append_assoc]
  have zA1 : ∀ i, i < x.lns.length → (((tx (A1 i)).size + (tx (fLane (x.lns.getD i ⟨0, 0, 0, 0, 0⟩))).size : Nat) : Int) ≤ 9223372036854775807 := fun i h => sz_okp (by
    have q1 := lA1 i
    have q2 := hlns _ (mem_getD ⟨0, 0, 0, 0, 0⟩ h)
    simp only [tx_size]
    omega)
  have eA1 : A0 x.own.length = A1 0 := by rw [hA1]; simp
  obtain ⟨A2, hA2⟩ : ∃ A : Nat → List UInt8, A = fun i => A1 x.lns.length ++ (x.bls.take i).flatMap fBell := ⟨_, rfl⟩
  have lA2 : ∀ i, (A2 i).length ≤ 1200000000000 := fun i => by
    have q := lA1 x.lns.length; have := tbls i
    rw [hA2]
    simp only [List.length_append]
    omega
  have sA2 : ∀ i, i < x.bls.length → tx (A2 i) ++ tx (fBell (x.bls.getD i ⟨0, 0⟩)) = tx (A2 (i + 1)) := fun i h => by
    rw [hA2, tx_app]
    show tx (_ ++ _) = tx (_)
    simp only [flat_snoc ⟨0, 0⟩ fBell x.bls i h, List.append_assoc]
  have zA2 : ∀ i, i < x.bls.length → (((tx (A2 i)).size + (tx (fBell (x.bls.getD i ⟨0, 0⟩))).size : Nat) : Int) ≤ 9223372036854775807 := fun i h => sz_okp (by
    have q1 := lA2 i
    have q2 := hbls _ (mem_getD ⟨0, 0⟩ h)
    simp only [tx_size]
    omega)
  have eA2 : A1 x.lns.length = A2 0 := by rw [hA2]; simp
  obtain ⟨A3, hA3⟩ : ∃ A : Nat → List UInt8, A = fun i => A2 x.bls.length ++ (x.pln.take i).flatMap fSlot := ⟨_, rfl⟩
  have lA3 : ∀ i, (A3 i).length ≤ 1600000000000 := fun i => by
    have q := lA2 x.bls.length; have := tpln i
    rw [hA3]
    simp only [List.length_append]
    omega
  have sA3 : ∀ i, i < x.pln.length → tx (A3 i) ++ tx (fSlot (x.pln.getD i ⟨0, 0⟩)) = tx (A3 (i + 1)) := fun i h => by
    rw [hA3, tx_app]
    show tx (_ ++ _) = tx (_)
    simp only [flat_snoc ⟨0, 0⟩ fSlot x.pln i h, List.append_assoc]
  have zA3 : ∀ i, i < x.pln.length → (((tx (A3 i)).size + (tx (fSlot (x.pln.getD i ⟨0, 0⟩))).size : Nat) : Int) ≤ 9223372036854775807 := fun i h => sz_okp (by
    have q1 := lA3 i
    have q2 := hpln _ (mem_getD ⟨0, 0⟩ h)
    simp only [tx_size]
    omega)
  have eA3 : A2 x.bls.length = A3 0 := by rw [hA3]; simp
  have eT : A3 x.pln.length = polT x := by
    rw [hA3, hA2, hA1, hA0]
    simp only [List.take_length]
    rfl
  rw [← eT] at hr
  subst hr
  refine fn_of lv7 Tryd.func7 rfl rfl (by kernel_rfl) rfl ?_
  refine .inl ⟨_, _, rfl, c1, rfl, ?_⟩
  repeat' (first | refine bsplit_true ?_ | refine bsplit_false ?_)
  refine ⟨{ i : Nat // i ≤ x.own.length }, fun i => ⟨frL [(1, .ptr 10 0), (2, .ptr 11 0), (4, dT (A0 i.1)), (20, .d (owns x.own)), (21, di x.own.length), (22, di i.1)], hpL [(10, .box 36 [.d (owns x.own), .d (lanes x.lns), .d (bells x.bls), .d (slots x.pln)]), (11, .box 30 [di 0, dT []])], 97, 0⟩, fun i => x.own.length - i.1, ⟨0, by omega⟩,
    le_of [(10, 0), (11, 32)] rfl rfl rfl rfl (tellHp_box rfl rfl ⟨DLe.refl _, DLe.refl _, DLe.refl _, DLe.refl _, trivial⟩ (tellHp_box rfl rfl ⟨rfl, rfl, trivial⟩ tellHp_nil)) (tellFr_ptr rfl rfl (tellFr_ptr rfl rfl (tellFr_v rfl (congrArg (fun z => Value.string (tx z)) eA0) (tellFr_d rfl (DLe.refl _) (tellFr_v rfl rfl (tellFr_v rfl rfl trivial)))))), ?_⟩
  rintro ⟨i, hi⟩
  by_cases hb0 : i < x.own.length
  · have hwi := congrArg (Value.int .i64) (wrap1 hb0 (by omega))
    refine bsplit_of_true (decide_eq_true (show (i : Int) < (x.own.length : Int) by omega)) ?_
    refine ask_intro ⟨by omega, by show (i : Int) < (x.own.length : Int); omega, rfl⟩ ?_
    refine .inl ⟨_, _, rfl, cown i hb0, rfl, ?_⟩
    refine ask_intro (zA0 i hb0) ?_
    exact ⟨⟨i + 1, by omega⟩, le_of [(10, 10), (11, 11)] rfl rfl rfl rfl (tellHp_box rfl rfl ⟨DLe.refl _, DLe.refl _, DLe.refl _, DLe.refl _, trivial⟩ (tellHp_box rfl rfl ⟨rfl, rfl, trivial⟩ tellHp_nil)) (tellFr_ptr rfl rfl (tellFr_ptr rfl rfl (tellFr_v rfl (congrArg Value.string (sA0 i hb0)) (tellFr_d rfl (DLe.refl _) (tellFr_v rfl rfl (tellFr_v rfl hwi trivial)))))), by show x.own.length - (i + 1) < x.own.length - i; omega⟩
  obtain rfl : i = x.own.length := by omega
  refine bsplit_of_false (decide_eq_false (show ¬ (x.own.length : Int) < (x.own.length : Int) by omega)) ?_
  refine ⟨{ i : Nat // i ≤ x.lns.length }, fun i => ⟨frL [(1, .ptr 10 0), (2, .ptr 11 0), (4, dT (A1 i.1)), (32, .d (lanes x.lns)), (33, di x.lns.length), (34, di i.1)], hpL [(10, .box 36 [.d (owns x.own), .d (lanes x.lns), .d (bells x.bls), .d (slots x.pln)]), (11, .box 30 [di 0, dT []])], 97, 0⟩, fun i => x.lns.length - i.1, ⟨0, by omega⟩,
    le_of [(10, 10), (11, 11)] rfl rfl rfl rfl (tellHp_box rfl rfl ⟨DLe.refl _, DLe.refl _, DLe.refl _, DLe.refl _, trivial⟩ (tellHp_box rfl rfl ⟨rfl, rfl, trivial⟩ tellHp_nil)) (tellFr_ptr rfl rfl (tellFr_ptr rfl rfl (tellFr_v rfl (congrArg (fun z => Value.string (tx z)) eA1) (tellFr_d rfl (DLe.refl _) (tellFr_v rfl rfl (tellFr_v rfl rfl trivial)))))), ?_⟩
  rintro ⟨i, hi⟩
  by_cases hb1 : i < x.lns.length
  · have hwi := congrArg (Value.int .i64) (wrap1 hb1 (by omega))
    refine bsplit_of_true (decide_eq_true (show (i : Int) < (x.lns.length : Int) by omega)) ?_
    refine ask_intro ⟨by omega, by show (i : Int) < (x.lns.length : Int); omega, rfl⟩ ?_
    refine .inl ⟨_, _, rfl, (clns i hb1).weak ⟨LVLe.refl _, LVLe.d (DLe.l rfl (fun j hj => litD_eq [(x.lns.getD i ⟨0, 0, 0, 0, 0⟩).frm, (x.lns.getD i ⟨0, 0, 0, 0, 0⟩).to, (x.lns.getD i ⟨0, 0, 0, 0, 0⟩).page, (x.lns.getD i ⟨0, 0, 0, 0, 0⟩).af, (x.lns.getD i ⟨0, 0, 0, 0, 0⟩).at_] j hj)), trivial⟩, rfl, ?_⟩
    refine ask_intro (zA1 i hb1) ?_
    exact ⟨⟨i + 1, by omega⟩, le_of [(10, 10), (11, 11)] rfl rfl rfl rfl (tellHp_box rfl rfl ⟨DLe.refl _, DLe.refl _, DLe.refl _, DLe.refl _, trivial⟩ (tellHp_box rfl rfl ⟨rfl, rfl, trivial⟩ tellHp_nil)) (tellFr_ptr rfl rfl (tellFr_ptr rfl rfl (tellFr_v rfl (congrArg Value.string (sA1 i hb1)) (tellFr_d rfl (DLe.refl _) (tellFr_v rfl rfl (tellFr_v rfl hwi trivial)))))), by show x.lns.length - (i + 1) < x.lns.length - i; omega⟩
  obtain rfl : i = x.lns.length := by omega
  refine bsplit_of_false (decide_eq_false (show ¬ (x.lns.length : Int) < (x.lns.length : Int) by omega)) ?_
  refine ⟨{ i : Nat // i ≤ x.bls.length }, fun i => ⟨frL [(1, .ptr 10 0), (2, .ptr 11 0), (4, dT (A2 i.1)), (54, .d (bells x.bls)), (55, di x.bls.length), (56, di i.1)], hpL [(10, .box 36 [.d (owns x.own), .d (lanes x.lns), .d (bells x.bls), .d (slots x.pln)]), (11, .box 30 [di 0, dT []])], 97, 0⟩, fun i => x.bls.length - i.1, ⟨0, by omega⟩,
    le_of [(10, 10), (11, 11)] rfl rfl rfl rfl (tellHp_box rfl rfl ⟨DLe.refl _, DLe.refl _, DLe.refl _, DLe.refl _, trivial⟩ (tellHp_box rfl rfl ⟨rfl, rfl, trivial⟩ tellHp_nil)) (tellFr_ptr rfl rfl (tellFr_ptr rfl rfl (tellFr_v rfl (congrArg (fun z => Value.string (tx z)) eA2) (tellFr_d rfl (DLe.refl _) (tellFr_v rfl rfl (tellFr_v rfl rfl trivial)))))), ?_⟩
  rintro ⟨i, hi⟩
  by_cases hb2 : i < x.bls.length
  · have hwi := congrArg (Value.int .i64) (wrap1 hb2 (by omega))
    refine bsplit_of_true (decide_eq_true (show (i : Int) < (x.bls.length : Int) by omega)) ?_
    refine ask_intro ⟨by omega, by show (i : Int) < (x.bls.length : Int); omega, rfl⟩ ?_
    refine .inl ⟨_, _, rfl, (cbls i hb2).weak ⟨LVLe.refl _, LVLe.d (DLe.l rfl (fun j hj => litD_eq [(x.bls.getD i ⟨0, 0⟩).frm, (x.bls.getD i ⟨0, 0⟩).to] j hj)), trivial⟩, rfl, ?_⟩
    refine ask_intro (zA2 i hb2) ?_
    exact ⟨⟨i + 1, by omega⟩, le_of [(10, 10), (11, 11)] rfl rfl rfl rfl (tellHp_box rfl rfl ⟨DLe.refl _, DLe.refl _, DLe.refl _, DLe.refl _, trivial⟩ (tellHp_box rfl rfl ⟨rfl, rfl, trivial⟩ tellHp_nil)) (tellFr_ptr rfl rfl (tellFr_ptr rfl rfl (tellFr_v rfl (congrArg Value.string (sA2 i hb2)) (tellFr_d rfl (DLe.refl _) (tellFr_v rfl rfl (tellFr_v rfl hwi trivial)))))), by show x.bls.length - (i + 1) < x.bls.length - i; omega⟩
  obtain rfl : i = x.bls.length := by omega
  refine bsplit_of_false (decide_eq_false (show ¬ (x.bls.length : Int) < (x.bls.length : Int) by omega)) ?_
  refine ⟨{ i : Nat // i ≤ x.pln.length }, fun i => ⟨frL [(2, .ptr 11 0), (4, dT (A3 i.1)), (70, .d (slots x.pln)), (71, di x.pln.length), (72, di i.1)], hpL [(11, .box 30 [di 0, dT []])], 97, 0⟩, fun i => x.pln.length - i.1, ⟨0, by omega⟩,
    le_of [(11, 11)] rfl rfl rfl rfl (tellHp_box rfl rfl ⟨rfl, rfl, trivial⟩ tellHp_nil) (tellFr_ptr rfl rfl (tellFr_v rfl (congrArg (fun z => Value.string (tx z)) eA3) (tellFr_d rfl (DLe.refl _) (tellFr_v rfl rfl (tellFr_v rfl rfl trivial))))), ?_⟩
  rintro ⟨i, hi⟩
  by_cases hb3 : i < x.pln.length
  · have hwi := congrArg (Value.int .i64) (wrap1 hb3 (by omega))
    refine bsplit_of_true (decide_eq_true (show (i : Int) < (x.pln.length : Int) by omega)) ?_
    refine ask_intro ⟨by omega, by show (i : Int) < (x.pln.length : Int); omega, rfl⟩ ?_
    refine .inl ⟨_, _, rfl, (cpln i hb3).weak ⟨LVLe.refl _, LVLe.d (DLe.l rfl (fun j hj => litD_eq [(x.pln.getD i ⟨0, 0⟩).guest, (x.pln.getD i ⟨0, 0⟩).steps] j hj)), trivial⟩, rfl, ?_⟩
    refine ask_intro (zA3 i hb3) ?_
    exact ⟨⟨i + 1, by omega⟩, le_of [(11, 11)] rfl rfl rfl rfl (tellHp_box rfl rfl ⟨rfl, rfl, trivial⟩ tellHp_nil) (tellFr_ptr rfl rfl (tellFr_v rfl (congrArg Value.string (sA3 i hb3)) (tellFr_d rfl (DLe.refl _) (tellFr_v rfl rfl (tellFr_v rfl hwi trivial))))), by show x.pln.length - (i + 1) < x.pln.length - i; omega⟩
  obtain rfl : i = x.pln.length := by omega
  refine bsplit_of_false (decide_eq_false (show ¬ (x.pln.length : Int) < (x.pln.length : Int) by omega)) ?_
  exact ⟨⟨rfl, rfl, trivial⟩, rfl⟩
set_option maxHeartbeats 3200000 in
theorem c_spec_l6Text (x : PolM) (hs : x.small) (hp : PolFew x) : FnOK Tryd.prog 15 [polP x] (rT (polT x)) := by
  have hfo : ∀ l ∈ x.own, (fOwn l).length ≤ 50000000000 := fun l hl => lineT_few _ (by decide) (hp.row l hl).2.2 (by have := (hp.row l hl).2.1; omega)
  have hlns : ∀ m ∈ x.lns, (fLane m).length ≤ 50000000000 := fun m hm => lineT_few _ (by decide) (hp.lane m hm) (by simp)
  have hbls : ∀ m ∈ x.bls, (fBell m).length ≤ 50000000000 := fun m hm => lineT_few _ (by decide) (hp.bell m hm) (by simp)
  have hpln : ∀ m ∈ x.pln, (fSlot m).length ≤ 50000000000 := fun m hm => lineT_few _ (by decide) (hp.slot m hm) (by simp)
  have nown : x.own.length ≤ 8 := by have := hp.own; omega
  have town := fun i => flat_len fOwn x.own i hfo nown
  have cown := fun i (h : i < x.own.length) => c_spec_l6Line wOwn (x.own.getD i []) (by decide) (by have := (hp.row _ (mem_getD [] h)).2.1; omega) (hp.row _ (mem_getD [] h)).2.2.f32
  have nlns : x.lns.length ≤ 8 := by have := hp.lns; omega
  have tlns := fun i => flat_len fLane x.lns i hlns nlns
  have clns := fun i (h : i < x.lns.length) => c_spec_l6Line wLane [(x.lns.getD i ⟨0, 0, 0, 0, 0⟩).frm, (x.lns.getD i ⟨0, 0, 0, 0, 0⟩).to, (x.lns.getD i ⟨0, 0, 0, 0, 0⟩).page, (x.lns.getD i ⟨0, 0, 0, 0, 0⟩).af, (x.lns.getD i ⟨0, 0, 0, 0, 0⟩).at_] (by decide) (by simp) (hp.lane _ (mem_getD ⟨0, 0, 0, 0, 0⟩ h)).f32
  have nbls : x.bls.length ≤ 8 := by have := hp.bls; omega
  have tbls := fun i => flat_len fBell x.bls i hbls nbls
  have cbls := fun i (h : i < x.bls.length) => c_spec_l6Line wBell [(x.bls.getD i ⟨0, 0⟩).frm, (x.bls.getD i ⟨0, 0⟩).to] (by decide) (by simp) (hp.bell _ (mem_getD ⟨0, 0⟩ h)).f32
  have npln : x.pln.length ≤ 8 := by have := hp.pln; omega
  have tpln := fun i => flat_len fSlot x.pln i hpln npln
  have cpln := fun i (h : i < x.pln.length) => c_spec_l6Line wSlot [(x.pln.getD i ⟨0, 0⟩).guest, (x.pln.getD i ⟨0, 0⟩).steps] (by decide) (by simp) (hp.slot _ (mem_getD ⟨0, 0⟩ h)).f32
  obtain ⟨A0, hA0⟩ : ∃ A : Nat → List UInt8, A = fun i => (x.own.take i).flatMap fOwn := ⟨_, rfl⟩
  have lA0 : ∀ i, (A0 i).length ≤ 400000000000 := fun i => by
    have := town i
    rw [hA0]
    simp only [List.length_append]
    omega
  have sA0 : ∀ i, i < x.own.length → tx (A0 i) ++ tx (fOwn (x.own.getD i [])) = tx (A0 (i + 1)) := fun i h => by
    rw [hA0, tx_app]
    show tx (_ ++ _) = tx (_)
    simp only [flat_snoc [] fOwn x.own i h, List.append_assoc]
  have zA0 : ∀ i, i < x.own.length → (((tx (A0 i)).size + (tx (fOwn (x.own.getD i []))).size : Nat) : Int) ≤ 9223372036854775807 := fun i h => sz_okp (by
    have q1 := lA0 i
    have q2 := hfo _ (mem_getD [] h)
    simp only [tx_size]
    omega)
  have eA0 : ([] : List UInt8) = A0 0 := by rw [hA0]; simp
  obtain ⟨A1, hA1⟩ : ∃ A : Nat → List UInt8, A = fun i => A0 x.own.length ++ (x.lns.take i).flatMap fLane := ⟨_, rfl⟩
  have lA1 : ∀ i, (A1 i).length ≤ 800000000000 := fun i => by
    have q := lA0 x.own.length; have := tlns i
    rw [hA1]
    simp only [List.length_append]
    omega
  have sA1 : ∀ i, i < x.lns.length → tx (A1 i) ++ tx (fLane (x.lns.getD i ⟨0, 0, 0, 0, 0⟩)) = tx (A1 (i + 1)) := fun i h => by
    rw [hA1, tx_app]
    show tx (_ ++ _) = tx (_)
    simp only [flat_snoc ⟨0, 0, 0, 0, 0⟩ fLane x.lns i h, List.append_assoc]
  have zA1 : ∀ i, i < x.lns.length → (((tx (A1 i)).size + (tx (fLane (x.lns.getD i ⟨0, 0, 0, 0, 0⟩))).size : Nat) : Int) ≤ 9223372036854775807 := fun i h => sz_okp (by
    have q1 := lA1 i
    have q2 := hlns _ (mem_getD ⟨0, 0, 0, 0, 0⟩ h)
    simp only [tx_size]
    omega)
  have eA1 : A0 x.own.length = A1 0 := by rw [hA1]; simp
  obtain ⟨A2, hA2⟩ : ∃ A : Nat → List UInt8, A = fun i => A1 x.lns.length ++ (x.bls.take i).flatMap fBell := ⟨_, rfl⟩
  have lA2 : ∀ i, (A2 i).length ≤ 1200000000000 := fun i => by
    have q := lA1 x.lns.length; have := tbls i
    rw [hA2]
    simp only [List.length_append]
    omega
  have sA2 : ∀ i, i < x.bls.length → tx (A2 i) ++ tx (fBell (x.bls.getD i ⟨0, 0⟩)) = tx (A2 (i + 1)) := fun i h => by
    rw [hA2, tx_app]
    show tx (_ ++ _) = tx (_)
    simp only [flat_snoc ⟨0, 0⟩ fBell x.bls i h, List.append_assoc]
  have zA2 : ∀ i, i < x.bls.length → (((tx (A2 i)).size + (tx (fBell (x.bls.getD i ⟨0, 0⟩))).size : Nat) : Int) ≤ 9223372036854775807 := fun i h => sz_okp (by
    have q1 := lA2 i
    have q2 := hbls _ (mem_getD ⟨0, 0⟩ h)
    simp only [tx_size]
    omega)
  have eA2 : A1 x.lns.length = A2 0 := by rw [hA2]; simp
  obtain ⟨A3, hA3⟩ : ∃ A : Nat → List UInt8, A = fun i => A2 x.bls.length ++ (x.pln.take i).flatMap fSlot := ⟨_, rfl⟩
  have lA3 : ∀ i, (A3 i).length ≤ 1600000000000 := fun i => by
    have q := lA2 x.bls.length; have := tpln i
    rw [hA3]
    simp only [List.length_append]
    omega
  have sA3 : ∀ i, i < x.pln.length → tx (A3 i) ++ tx (fSlot (x.pln.getD i ⟨0, 0⟩)) = tx (A3 (i + 1)) := fun i h => by
    rw [hA3, tx_app]
    show tx (_ ++ _) = tx (_)
    simp only [flat_snoc ⟨0, 0⟩ fSlot x.pln i h, List.append_assoc]
  have zA3 : ∀ i, i < x.pln.length → (((tx (A3 i)).size + (tx (fSlot (x.pln.getD i ⟨0, 0⟩))).size : Nat) : Int) ≤ 9223372036854775807 := fun i h => sz_okp (by
    have q1 := lA3 i
    have q2 := hpln _ (mem_getD ⟨0, 0⟩ h)
    simp only [tx_size]
    omega)
  have eA3 : A2 x.bls.length = A3 0 := by rw [hA3]; simp
  have eT : A3 x.pln.length = polT x := by
    rw [hA3, hA2, hA1, hA0]
    simp only [List.take_length]
    rfl
  rw [← eT]
  refine fn_of lv15 Tryd.func15 rfl rfl (by kernel_rfl) rfl ?_
  refine ⟨{ i : Nat // i ≤ x.own.length }, fun i => ⟨frL [(0, polP x), (3, dT (A0 i.1)), (4, di i.1)], hpL [], 97, 0⟩, fun i => x.own.length - i.1, ⟨0, by omega⟩,
    le_of [] rfl rfl rfl rfl tellHp_nil (tellFr_x rfl ⟨DLe.refl _, DLe.refl _, DLe.refl _, DLe.refl _, trivial⟩ (tellFr_v rfl (congrArg (fun z => Value.string (tx z)) eA0) (tellFr_v rfl rfl trivial))), ?_⟩
  rintro ⟨i, hi⟩
  by_cases hb0 : i < x.own.length
  · have hwi := congrArg (Value.int .i64) (wrap1 hb0 (by omega))
    refine bsplit_of_true (decide_eq_true (show (i : Int) < (x.own.length : Int) by omega)) ?_
    refine ask_intro ⟨by omega, by show (i : Int) < (x.own.length : Int); omega, rfl⟩ ?_
    refine .inl ⟨_, _, rfl, (cown i hb0), rfl, ?_⟩
    refine ask_intro (zA0 i hb0) ?_
    exact ⟨⟨i + 1, by omega⟩, le_of [] rfl rfl rfl rfl tellHp_nil (tellFr_x rfl ⟨DLe.refl _, DLe.refl _, DLe.refl _, DLe.refl _, trivial⟩ (tellFr_v rfl (congrArg Value.string (sA0 i hb0)) (tellFr_v rfl hwi trivial))), by show x.own.length - (i + 1) < x.own.length - i; omega⟩
  obtain rfl : i = x.own.length := by omega
  refine bsplit_of_false (decide_eq_false (show ¬ (x.own.length : Int) < (x.own.length : Int) by omega)) ?_
  refine ⟨{ i : Nat // i ≤ x.lns.length }, fun i => ⟨frL [(0, polP x), (3, dT (A1 i.1)), (5, di i.1)], hpL [], 97, 0⟩, fun i => x.lns.length - i.1, ⟨0, by omega⟩,
    le_of [] rfl rfl rfl rfl tellHp_nil (tellFr_x rfl ⟨DLe.refl _, DLe.refl _, DLe.refl _, DLe.refl _, trivial⟩ (tellFr_v rfl (congrArg (fun z => Value.string (tx z)) eA1) (tellFr_v rfl rfl trivial))), ?_⟩
  rintro ⟨i, hi⟩
  by_cases hb1 : i < x.lns.length
  · have hwi := congrArg (Value.int .i64) (wrap1 hb1 (by omega))
    refine bsplit_of_true (decide_eq_true (show (i : Int) < (x.lns.length : Int) by omega)) ?_
    refine ask_intro ⟨by omega, by show (i : Int) < (x.lns.length : Int); omega, rfl⟩ ?_
    refine .inl ⟨_, _, rfl, (clns i hb1).weak ⟨LVLe.refl _, LVLe.d (DLe.l rfl (fun j hj => litD_eq [(x.lns.getD i ⟨0, 0, 0, 0, 0⟩).frm, (x.lns.getD i ⟨0, 0, 0, 0, 0⟩).to, (x.lns.getD i ⟨0, 0, 0, 0, 0⟩).page, (x.lns.getD i ⟨0, 0, 0, 0, 0⟩).af, (x.lns.getD i ⟨0, 0, 0, 0, 0⟩).at_] j hj)), trivial⟩, rfl, ?_⟩
    refine ask_intro (zA1 i hb1) ?_
    exact ⟨⟨i + 1, by omega⟩, le_of [] rfl rfl rfl rfl tellHp_nil (tellFr_x rfl ⟨DLe.refl _, DLe.refl _, DLe.refl _, DLe.refl _, trivial⟩ (tellFr_v rfl (congrArg Value.string (sA1 i hb1)) (tellFr_v rfl hwi trivial))), by show x.lns.length - (i + 1) < x.lns.length - i; omega⟩
  obtain rfl : i = x.lns.length := by omega
  refine bsplit_of_false (decide_eq_false (show ¬ (x.lns.length : Int) < (x.lns.length : Int) by omega)) ?_
  refine ⟨{ i : Nat // i ≤ x.bls.length }, fun i => ⟨frL [(0, polP x), (3, dT (A2 i.1)), (7, di i.1)], hpL [], 97, 0⟩, fun i => x.bls.length - i.1, ⟨0, by omega⟩,
    le_of [] rfl rfl rfl rfl tellHp_nil (tellFr_x rfl ⟨DLe.refl _, DLe.refl _, DLe.refl _, DLe.refl _, trivial⟩ (tellFr_v rfl (congrArg (fun z => Value.string (tx z)) eA2) (tellFr_v rfl rfl trivial))), ?_⟩
  rintro ⟨i, hi⟩
  by_cases hb2 : i < x.bls.length
  · have hwi := congrArg (Value.int .i64) (wrap1 hb2 (by omega))
    refine bsplit_of_true (decide_eq_true (show (i : Int) < (x.bls.length : Int) by omega)) ?_
    refine ask_intro ⟨by omega, by show (i : Int) < (x.bls.length : Int); omega, rfl⟩ ?_
    refine ask_intro ⟨by omega, by show (i : Int) < (x.bls.length : Int); omega, rfl⟩ ?_
    refine .inl ⟨_, _, rfl, (cbls i hb2).weak ⟨LVLe.refl _, LVLe.d (DLe.l rfl (fun j hj => litD_eq [(x.bls.getD i ⟨0, 0⟩).frm, (x.bls.getD i ⟨0, 0⟩).to] j hj)), trivial⟩, rfl, ?_⟩
    refine ask_intro (zA2 i hb2) ?_
    refine chk_intro (by kernel_rfl) ?_
    exact ⟨⟨i + 1, by omega⟩, le_of [] rfl rfl rfl rfl tellHp_nil (tellFr_x rfl ⟨DLe.refl _, DLe.refl _, DLe.refl _, DLe.refl _, trivial⟩ (tellFr_v rfl (congrArg Value.string (sA2 i hb2)) (tellFr_v rfl hwi trivial))), by show x.bls.length - (i + 1) < x.bls.length - i; omega⟩
  obtain rfl : i = x.bls.length := by omega
  refine bsplit_of_false (decide_eq_false (show ¬ (x.bls.length : Int) < (x.bls.length : Int) by omega)) ?_
  refine ⟨{ i : Nat // i ≤ x.pln.length }, fun i => ⟨frL [(0, polP x), (3, dT (A3 i.1)), (8, di i.1)], hpL [], 97, 0⟩, fun i => x.pln.length - i.1, ⟨0, by omega⟩,
    le_of [] rfl rfl rfl rfl tellHp_nil (tellFr_x rfl ⟨DLe.refl _, DLe.refl _, DLe.refl _, DLe.refl _, trivial⟩ (tellFr_v rfl (congrArg (fun z => Value.string (tx z)) eA3) (tellFr_v rfl rfl trivial))), ?_⟩
  rintro ⟨i, hi⟩
  by_cases hb3 : i < x.pln.length
  · have hwi := congrArg (Value.int .i64) (wrap1 hb3 (by omega))
    refine bsplit_of_true (decide_eq_true (show (i : Int) < (x.pln.length : Int) by omega)) ?_
    refine ask_intro ⟨by omega, by show (i : Int) < (x.pln.length : Int); omega, rfl⟩ ?_
    refine ask_intro ⟨by omega, by show (i : Int) < (x.pln.length : Int); omega, rfl⟩ ?_
    refine .inl ⟨_, _, rfl, (cpln i hb3).weak ⟨LVLe.refl _, LVLe.d (DLe.l rfl (fun j hj => litD_eq [(x.pln.getD i ⟨0, 0⟩).guest, (x.pln.getD i ⟨0, 0⟩).steps] j hj)), trivial⟩, rfl, ?_⟩
    refine ask_intro (zA3 i hb3) ?_
    refine chk_intro (by kernel_rfl) ?_
    exact ⟨⟨i + 1, by omega⟩, le_of [] rfl rfl rfl rfl tellHp_nil (tellFr_x rfl ⟨DLe.refl _, DLe.refl _, DLe.refl _, DLe.refl _, trivial⟩ (tellFr_v rfl (congrArg Value.string (sA3 i hb3)) (tellFr_v rfl hwi trivial))), by show x.pln.length - (i + 1) < x.pln.length - i; omega⟩
  obtain rfl : i = x.pln.length := by omega
  refine bsplit_of_false (decide_eq_false (show ¬ (x.pln.length : Int) < (x.pln.length : Int) by omega)) ?_
  exact ⟨⟨rfl, trivial⟩, rfl⟩
theorem c_spec_FormatPolicy (x : PolM) (hs : x.small) : FnOK Tryd.prog 5 [polLV x] (.r (trR (formatPolicy x))) := by
  have c1 := c_spec_l6Fault x hs
  obtain ⟨r, hr⟩ : ∃ r, r = formatPolicy x := ⟨_, rfl⟩
  rw [← hr]
  unfold formatPolicy at hr
  by_cases h : polFault x = 0
  rotate_left
  · rw [if_neg h] at hr
    subst hr
    generalize polFault x = e at *
    refine fn_of lv5 Tryd.func5 rfl rfl (by kernel_rfl) rfl ?_
    refine .inl ⟨_, _, rfl, c1, rfl, ?_⟩
    refine bsplit_of_true (by simpa using h) ?_
    exact ⟨⟨rfl, rfl, trivial⟩, rfl⟩
  have c2 := c_spec_l6Text x hs (pol_fewT h)
  rw [if_pos h] at hr
  rw [h] at c1
  subst hr
  generalize polT x = T at *
  refine fn_of lv5 Tryd.func5 rfl rfl (by kernel_rfl) rfl ?_
  refine .inl ⟨_, _, rfl, c1, rfl, ?_⟩
  repeat' (first | refine bsplit_true ?_ | refine bsplit_false ?_)
  refine .inl ⟨_, _, rfl, c2, rfl, ?_⟩
  exact ⟨⟨rfl, rfl, trivial⟩, rfl⟩
set_option maxHeartbeats 1600000 in
theorem c_laws_FnExactFormatPolicy (x : PolM) (ho : x.ok) : FnOK Tryd.prog 3 [polLV x] (rb true) := by
  have hs := ho.small
  have ct := c_laws_toPolicy x hs
  have cs := c_spec_FormatPolicy x hs
  have ci := c_impl_FormatPolicy x hs
  have ce := c_laws_eqPolicy x x hs
  obtain ⟨q, hq⟩ : ∃ q, q = formatPolicy x := ⟨_, rfl⟩
  rw [← hq] at cs ci
  have cq := c_laws_eqTextResult q
  have cz := c_laws_szPolicy x hs 1048576 (by omega) (by omega)
  refine fn_of lv3 Tryd.func3 rfl rfl (by kernel_rfl) rfl ?_
  refine .inl ⟨_, _, rfl, cz, rfl, ?_⟩
  refine bsplit_intro (fun h => ?_) (fun h => ?_)
  · exact ⟨⟨rfl, trivial⟩, rfl⟩
  refine .inl ⟨_, _, rfl, ct, rfl, ?_⟩
  refine .inl ⟨_, _, rfl, cs, rfl, ?_⟩
  refine .inl ⟨_, _, rfl, ct, rfl, ?_⟩
  refine .inl ⟨_, _, rfl, ci, rfl, ?_⟩
  refine .inl ⟨_, _, rfl, cq, rfl, ?_⟩
  refine bsplit_of_false (by simp) ?_
  refine .inl ⟨_, _, rfl, ct, rfl, ?_⟩
  refine .inl ⟨_, _, rfl, ce, rfl, ?_⟩
  refine chk_intro (by kernel_rfl) ?_
  refine bsplit_of_false (by simp) ?_
  exact ⟨⟨rfl, trivial⟩, rfl⟩
end Go.Proofs.YtojaakpnpdnbhaaDoor.L

/- The law FnExactFormatPolicy answers true at every input that its statement lets in. -/
set_option linter.unusedVariables false
set_option maxRecDepth 100000
namespace Go.Proofs.YtojaakpnpdnbhaaDoor.L.FnExactFormatPolicy
open Go.RowKit Go.ChangeShapes Go.WideShapes Go.ChangeAt
noncomputable def laidWorld (os : Os) : World :=
  let w0 := World.holding Tryd.prog os ⟨#[], #[], []⟩
  { w0 with heap := (((w0.heap.modify 1 fun
      | .cells _ t frozen => .cells (([1, 10, 100, 1000, 10000, 100000, 1000000, 10000000, 100000000, 1000000000, 10000000000, 100000000000, 1000000000000, 10000000000000, 100000000000000, 1000000000000000, 10000000000000000, 100000000000000000, 1000000000000000000, 10000000000000000000] : List Int).map (Value.int .u64)).toArray t frozen
      | o => o).modify 2 fun
      | .cells _ t frozen => .cells (([0, 1, 28, 2, 29, 14, 24, 3, 30, 22, 20, 15, 25, 17, 4, 8, 31, 27, 13, 23, 21, 19, 16, 7, 26, 12, 18, 6, 11, 5, 10, 9] : List Int).map (Value.int .u8)).toArray t frozen
      | o => o).modify 3 fun
      | .cells _ t frozen => .cells (([0, 1, 56, 2, 57, 49, 28, 3, 61, 58, 42, 50, 38, 29, 17, 4, 62, 47, 59, 36, 45, 43, 51, 22, 53, 39, 33, 30, 24, 18, 12, 5, 63, 55, 48, 27, 60, 41, 37, 16, 46, 35, 44, 21, 52, 32, 23, 11, 54, 26, 40, 15, 34, 20, 31, 10, 25, 14, 19, 9, 13, 8, 7, 6] : List Int).map (Value.int .u8)).toArray t frozen
      | o => o) }
theorem laidWorld_met (os : Os) (args : Array Value) : laidMetH Tryd.prog Rows.fnExactFormatPolicyRow.laid ((laidWorld os).forCall (fun _ _ => 0) ⟨#[], args, []⟩).memory :=
  show laidMet Tryd.prog Rows.fnExactFormatPolicyRow.laid _ from laidMet_of_run' 8 (by kernel_rfl) (by kernel_rfl)
theorem gl_of_laid {W : World} (h : laidMetH Tryd.prog Rows.fnExactFormatPolicyRow.laid W) : GlOK (Mem W) W := by
  have h' : laidMet Tryd.prog Rows.fnExactFormatPolicyRow.laid W := h
  obtain ⟨ps, hv, _⟩ := h'
  intro g k zs hg
  rcases List.mem_cons.1 hg with e | hg
  · cases e
    have t := tab_of_laid (P := Tryd.prog) (W := W) (name := "internal/strconv.uint64pow10") (k := .u64) (zs := [1, 10, 100, 1000, 10000, 100000, 1000000, 10000000, 100000000, 1000000000, 10000000000, 100000000000, 1000000000000, 10000000000000, 100000000000000, 1000000000000000, 10000000000000000, 100000000000000000, 1000000000000000000, 10000000000000000000]) (g := 1) (t := 128) (e := 121) (n := 20) (by kernel_rfl) (by kernel_rfl) (by kernel_rfl) (by kernel_rfl) (by kernel_rfl) (by kernel_rfl) hv (List.Mem.tail _ (List.Mem.tail _ (List.Mem.head _)))
    exact gl_tab t (by kernel_rfl) (by simp)
  rcases List.mem_cons.1 hg with e | hg
  · cases e
    have t := tab_of_laid (P := Tryd.prog) (W := W) (name := "math/bits.deBruijn32tab") (k := .u8) (zs := [0, 1, 28, 2, 29, 14, 24, 3, 30, 22, 20, 15, 25, 17, 4, 8, 31, 27, 13, 23, 21, 19, 16, 7, 26, 12, 18, 6, 11, 5, 10, 9]) (g := 2) (t := 135) (e := 5) (n := 32) (by kernel_rfl) (by kernel_rfl) (by kernel_rfl) (by kernel_rfl) (by kernel_rfl) (by kernel_rfl) hv (List.Mem.head _)
    exact gl_tab t (by kernel_rfl) (by simp)
  rcases List.mem_cons.1 hg with e | hg
  · cases e
    have t := tab_of_laid (P := Tryd.prog) (W := W) (name := "math/bits.deBruijn64tab") (k := .u8) (zs := [0, 1, 56, 2, 57, 49, 28, 3, 61, 58, 42, 50, 38, 29, 17, 4, 62, 47, 59, 36, 45, 43, 51, 22, 53, 39, 33, 30, 24, 18, 12, 5, 63, 55, 48, 27, 60, 41, 37, 16, 46, 35, 44, 21, 52, 32, 23, 11, 54, 26, 40, 15, 34, 20, 31, 10, 25, 14, 19, 9, 13, 8, 7, 6]) (g := 3) (t := 136) (e := 5) (n := 64) (by kernel_rfl) (by kernel_rfl) (by kernel_rfl) (by kernel_rfl) (by kernel_rfl) (by kernel_rfl) hv (List.Mem.tail _ (List.Mem.head _))
    exact gl_tab t (by kernel_rfl) (by simp)
  cases hg
theorem lifted (os : Os) (started : os.Started) (H : Type) (enc : TypeId × Value → H) :
    ReturnsInHanded {} Tryd.checked os 3 .any (fun w args => (Rows.fnExactFormatPolicySpec.pre enc Tryd.prog Tryd.f3 Rows.fnExactFormatPolicyRow.domain false w args ∧ laidMetH Tryd.prog Rows.fnExactFormatPolicyRow.laid w) ∧ sizedMet enc Tryd.prog Tryd.f3 (OpenSpec.ofChange Rows.fnExactFormatPolicySpec) false w args) (Rows.fnExactFormatPolicySpec.post enc Tryd.prog Tryd.f3 false true false false) := by
  refine returnsInHanded_of_change_and (C := Tryd.checked) (X := fun w _ => laidMetH Tryd.prog Rows.fnExactFormatPolicyRow.laid w) (fun _ _ _ hh h => h.of_heap hh) own started (by kernel_rfl) Tryd.func3
    (ChangeSpec.witness_at (enc := enc) (C := Tryd.checked) (os := os) (X := fun w _ => laidMetH Tryd.prog Rows.fnExactFormatPolicyRow.laid w) false (laidWorld os) #[.agg #[.slice none 0 0, .slice none 0 0, .slice none 0 0, .slice none 0 0]] 8 rfl (by kernel_rfl) (by kernel_rfl) (by kernel_rfl) (by kernel_rfl) (by kernel_rfl) (laidWorld_met os _)) ?_
  intro W base args ds gs before hval0 hW hcnd hsz0 hL _
  have hsz : (DataW.weightsEach Tryd.prog (Tryd.f3.params.toList ++ Rows.fnExactFormatPolicySpec.plain.varTypes Tryd.prog) (ds ++ gs)).all (· ≤ reachBytes) = true := hsz0
  have hval : ∀ (j : Nat) t v, Tryd.f3.params[j]? = some t → args[j]? = some v → Value.okWide Tryd.prog W .any base t v := hval0
  have hW' := hW
  obtain ⟨p, q, hA0, hV, rfl, hfz, hnd⟩ := hW
  have hA : DataW.TrodAll enc Tryd.prog W 0 (fun _ => true) true Tryd.f3.params.toList args.toList ds p := hA0
  rw [Tryd.params3] at hA hval hsz
  obtain ⟨v0, vs0, d0, ds0, p0, q0, hargs, rfl, rfl, h0, r0⟩ := trodAll_cons hA
  obtain ⟨rfl, rfl, rfl⟩ := trodAll_nil r0
  obtain rfl : args = #[v0] := by cases args; simp_all
  obtain ⟨rfl, rfl⟩ := trodVars_none hV
  have hsm : ∀ k ∈ DataW.weightsEach Tryd.prog ([27] ++ Rows.fnExactFormatPolicySpec.plain.varTypes Tryd.prog) ([d0] ++ []), k ≤ reachBytes := fun k hk => by simpa using List.all_eq_true.1 hsz k hk
  have k0 := h0
  have lt0 : ∀ x ∈ p0, x.block < W.heap.size := by obtain ⟨m, hm⟩ := k0; exact DataW.trod_lt m _ _ _ hm
  obtain ⟨m0, hm0, hvr0⟩ := reads_Policy.agg Tryd.underlying27 (hval 0 27 v0 rfl rfl) h0 (fun k hk => hsm k (DataW.weights_mem_each (j := 0) rfl rfl k hk))
  refine ((c_laws_FnExactFormatPolicy m0 hm0).calls W (Mem W) [v0] ⟨fun b hb => hb, gl_of_laid hL⟩ rfl (fun j hj => ?_)).mono fun e W' ⟨v, he, bel, hrr⟩ => ?_
  · match j, hj with
    | 0, _ => exact hvr0
    | j + 1, hj => exact absurd hj (by simp)
  · obtain ⟨us, J, hl, rfl, hJ, hok, _, _⟩ := hrr.ex
    have h1 := hok 0 _ rfl
    have h2 : RV.val us (rb true) = .bool true := h1
    rw [h2] at he
    subst he
    exact ⟨_, rfl, _, _, _, [], _, [], hW', trodAll_mk1 (shut_bool Tryd.underlying4 _), (trodAll_cons_mk (Below.trod laidOut (by kernel_rfl) (of_decide_eq_true (by kernel_rfl)) k0 bel lt0) trodAll_mk0), rfl, bel.frame _, fun h => by cases h⟩
theorem over : Rows.fnExactFormatPolicyRow.holds Tryd.pinned (OpenSpec.ofChange Rows.fnExactFormatPolicySpec) :=
  OpenClaim.holds_of_wide 3 Tryd.f3 rfl rfl rfl rfl rfl rfl rfl ⟨rfl, rfl, rfl, rfl, rfl⟩ rfl rfl rfl rfl rfl (by kernel_rfl) Tryd.func3 (by kernel_rfl)
    (of_decide_eq_true (by kernel_rfl)) (by unfold Func.isWrapper; first | (rw [if_pos (by decide +kernel)]; kernel_rfl) | (rw [if_neg (by decide +kernel)]; exact ⟨rfl, rfl⟩))
    (fun os started H enc _ => lifted os started H enc)
theorem card : Rows.FnExactFormatPolicyCardSaid :=
  Claim7.holds_tied_plain_at .later [] [.data, .data, .data] true (true, "bb42215856f77d3765b0120c14e3093cc334647f187acf649d026172f16660c1") false over (fun _ h => by cases h) (by kernel_rfl) (fun _ h => by cases h) fnExactFormatPolicy_row_tie rfl ⟨rfl, rfl⟩ (by kernel_rfl) rfl
    (fun f fn hf hfn => by
      obtain rfl : f = 3 := (Option.some.inj ((show Tryd.prog.funcNamed "loop.example/g00213/laws.FnExactFormatPolicy" = some 3 by kernel_rfl).symm.trans hf)).symm
      obtain rfl : fn = Tryd.f3 := (Option.some.inj (Tryd.func3.symm.trans hfn)).symm
      refine ⟨by kernel_rfl, fun j t ht => ?_⟩
      rw [Tryd.params3] at ht
      rcases j with _ | j
      · obtain rfl : t = 27 := by simpa using ht.symm
        exact (show Tryd.prog.wantsStandIn 27 = false by kernel_rfl)
      simp at ht)
    (by kernel_rfl)
end Go.Proofs.YtojaakpnpdnbhaaDoor.L.FnExactFormatPolicy
namespace Go.Proofs.YtojaakpnpdnbhaaDoor
theorem fnExactFormatPolicy_holds : Rows.FnExactFormatPolicyCardSaid := L.FnExactFormatPolicy.card
#print axioms fnExactFormatPolicy_holds
end Go.Proofs.YtojaakpnpdnbhaaDoor
