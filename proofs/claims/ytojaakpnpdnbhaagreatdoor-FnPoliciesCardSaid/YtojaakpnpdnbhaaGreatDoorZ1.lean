/- The symbolic logic and the contracts that the proof leans on, part 1. -/
import Derived.Test.YtojaakpnpdnbhaaGreatDoorLt
import Derived.Test.YtojaakpnpdnbhaaGreatDoorLr
import Derived.Test.YtojaakpnpdnbhaaGreatDoorLs
import Derived.Test.YtojaakpnpdnbhaaGreatDoorLy
import Derived.Test.YtojaakpnpdnbhaaGreatDoorMz
import Derived.Test.YtojaakpnpdnbhaaGreatDoorMs
import Derived.Lib.SplitLaws
import Derived.Lib.AtoiAll
/- What the functions over words and rows of words compute: contracts, for rows that fit into memory. -/
set_option linter.unusedVariables false
set_option linter.unusedSimpArgs false
set_option maxRecDepth 100000
namespace Go.Proofs.YtojaakpnpdnbhaaGreatDoor.L
open Go.RowKit
abbrev dv (v : Value) : LV := .d (.v v)
abbrev di (n : Int) : LV := .d (.v (.int .i64 n))
abbrev rb (b : Bool) : RV := .r (.one (.v (.bool b)))
abbrev ri (n : Int) : RV := .r (.one (.v (.int .i64 n)))
abbrev ints (l : List Int) : D := .l l.length fun i => [.v (.int .i64 (l.getD i 0))]

def inR (n a b : Int) : Bool := decide (a ≤ n) && decide (n ≤ b)
def isW (n : Int) : Bool := inR n 0 4294967295
theorem eqv {α : Type} {f : α → Value} {a b : α} (h : a = b) : f a = f b := by rw [h]

theorem c_impl_within (n a b : Int) : FnOK Tryz.prog 39 [di n, di a, di b] (rb (inR n a b)) := by
  refine fn_of lv39 Tryz.func39 rfl rfl rfl rfl ?_
  refine bsplit_intro (fun h => ?_) (fun h => ?_)
  · repeat' (first | refine bsplit_true ?_ | refine bsplit_false ?_)
    refine ⟨⟨congrArg Value.bool (?_ : decide (n ≤ b) = _), trivial⟩, rfl⟩
    simp at h; simp [inR, h]
  · repeat' (first | refine bsplit_true ?_ | refine bsplit_false ?_)
    refine ⟨⟨congrArg Value.bool (?_ : false = _), trivial⟩, rfl⟩
    simp at h; simp [inR]; omega
theorem c_spec_l1In (n a b : Int) : FnOK Tryz.prog 63 [di n, di a, di b] (rb (inR n a b)) := by
  refine fn_of lv63 Tryz.func63 rfl rfl rfl rfl ?_
  refine bsplit_intro (fun h => ?_) (fun h => ?_)
  · repeat' (first | refine bsplit_true ?_ | refine bsplit_false ?_)
    refine ⟨⟨congrArg Value.bool (?_ : decide (n ≤ b) = _), trivial⟩, rfl⟩
    simp at h; simp [inR, h]
  · repeat' (first | refine bsplit_true ?_ | refine bsplit_false ?_)
    refine ⟨⟨congrArg Value.bool (?_ : false = _), trivial⟩, rfl⟩
    simp at h; simp [inR]; omega

theorem drop_all (l : List Int) (p : Int → Bool) (i : Nat) (h : i < l.length) : (l.drop i).all p = (p (l.getD i 0) && (l.drop (i + 1)).all p) := by
  rw [List.drop_eq_getElem_cons h, List.all_cons]
  simp [List.getD, List.getElem?_eq_getElem h]
theorem wrap_i64 (n : Int) (h1 : -9223372036854775808 ≤ n) (h2 : n < 9223372036854775808) : IntKind.i64.wrap n = n := by rw [IntKind.wrap_i64]; omega

theorem drop_any (l : List Int) (p : Int → Bool) (i : Nat) (h : i < l.length) : (l.drop i).any p = (p (l.getD i 0) || (l.drop (i + 1)).any p) := by
  rw [List.drop_eq_getElem_cons h, List.any_cons]
  simp [List.getD, List.getElem?_eq_getElem h]
def idxOf (l : List Int) (p : Int → Bool) (i : Nat) : Int := bif (l.drop i).any p then (((l.drop i).findIdx p + i : Nat) : Int) else -1
theorem idx_hit {l : List Int} {p : Int → Bool} {i : Nat} (h : i < l.length) (hp : p (l.getD i 0) = true) : idxOf l p i = i := by
  unfold idxOf
  rw [drop_any l p i h, hp, List.drop_eq_getElem_cons h]
  have : p l[i] = true := by simpa [List.getD, List.getElem?_eq_getElem h] using hp
  rw [List.findIdx_cons, this]
  simp
theorem idx_miss {l : List Int} {p : Int → Bool} {i : Nat} (h : i < l.length) (hp : p (l.getD i 0) = false) : idxOf l p i = idxOf l p (i + 1) := by
  unfold idxOf
  rw [drop_any l p i h, hp, Bool.false_or, List.drop_eq_getElem_cons h]
  have : p l[i] = false := by simpa [List.getD, List.getElem?_eq_getElem h] using hp
  cases (List.drop (i + 1) l).any p with
  | false => rfl
  | true =>
    simp only [cond_true, List.findIdx_cons, this, cond_false]
    omega
theorem idx_end {l : List Int} {p : Int → Bool} {i : Nat} (h : l.length ≤ i) : idxOf l p i = -1 := by
  unfold idxOf
  rw [List.drop_eq_nil_of_le h]; rfl

abbrev intsF (l : List Int) (i : Nat) : List D := [.v (.int .i64 (l.getD i 0))]
abbrev oInts (l : List Int) : RC := .own 2 1 l.length (intsF l)
theorem drop_cons (l : List Int) (i : Nat) (h : i < l.length) : l.drop i = l.getD i 0 :: l.drop (i + 1) :=
  (List.drop_eq_getElem_cons h).trans (by rw [show l[i] = l.getD i 0 by simp [List.getD, List.getElem?_eq_getElem h]])
theorem c_laws_eqInt64S (l m : List Int) (hl : l.length ≤ 9223372036854775807) : FnOK Tryz.prog 81 [.d (ints l), .d (ints m)] (rb (l == m)) := by
  refine fn_of lv81 Tryz.func81 rfl rfl rfl rfl ?_
  refine bsplit_intro (fun h => ?_) (fun h => ?_)
  · refine ⟨⟨congrArg Value.bool (?_ : false = _), trivial⟩, rfl⟩
    simp at h
    symm
    rw [beq_eq_false_iff_ne]
    rintro rfl
    exact h rfl
  have hlen : l.length = m.length := by simp at h; omega
  refine ⟨{ i : Nat // i ≤ l.length ∧ (l.drop i == m.drop i) = (l == m) }, fun i => ⟨frL [(0, .d (ints l)), (1, .d (ints m)), (5, di i.1)], hpL [], 0, 0⟩, fun i => l.length - i.1, ⟨0, by simp⟩,
    le_of [] rfl rfl rfl rfl trivial (tellFr_d rfl (DLe.refl _) (tellFr_d rfl (DLe.refl _) (tellFr_v rfl rfl trivial))), ?_⟩
  rintro ⟨i, hi, hall⟩
  refine bsplit_intro (fun h => ?_) (fun h => ?_)
  · have h : i < l.length := by simp at h; exact h
    have hd : (l.drop i == m.drop i) = ((l.getD i 0 == m.getD i 0) && (l.drop (i + 1) == m.drop (i + 1))) := by
      rw [drop_cons l i h, drop_cons m i (by omega)]
      exact List.cons_beq_cons
    refine ask_intro ⟨by omega, by simp; omega, rfl⟩ ?_
    refine ask_intro ⟨by omega, by simp; omega, rfl⟩ ?_
    refine chk_intro rfl ?_
    refine bsplit_intro (fun h2 => ?_) (fun h2 => ?_)
    · refine ⟨⟨congrArg Value.bool (?_ : false = _), trivial⟩, rfl⟩
      have h2 : (l.getD i 0 != m.getD i 0) = true := h2
      rw [← hall, hd]
      have h2 : (l.getD i 0 == m.getD i 0) = false := by simpa [bne] using h2
      rw [h2]; rfl
    · have h2 : (l.getD i 0 != m.getD i 0) = false := h2
      refine ⟨⟨i + 1, by omega, ?_⟩, le_of [] rfl rfl rfl rfl trivial (tellFr_d rfl (DLe.refl _) (tellFr_d rfl (DLe.refl _) (tellFr_v rfl (congrArg (Value.int .i64) (?_ : IntKind.i64.wrap ((i : Int) + 1) = ((i + 1 : Nat) : Int))) trivial))), ?_⟩
      · rw [← hall, hd]
        have h2 : (l.getD i 0 == m.getD i 0) = true := by simpa [bne] using h2
        rw [h2]; rfl
      · exact wrap_i64 (i + 1) (by omega) (by omega)
      · show l.length - (i + 1) < l.length - i
        omega
  · refine ⟨⟨congrArg Value.bool (?_ : true = _), trivial⟩, rfl⟩
    simp at h
    rw [← hall, List.drop_eq_nil_of_le h, List.drop_eq_nil_of_le (by omega)]; rfl
end Go.Proofs.YtojaakpnpdnbhaaGreatDoor.L

/- What the functions that look at a machine compute: contracts, for machines that fit into memory. -/
set_option linter.unusedVariables false
set_option linter.unusedSimpArgs false
set_option maxRecDepth 100000
namespace Go.Proofs.YtojaakpnpdnbhaaGreatDoor.L
open Go.RowKit
structure HartM where
  regs : List Int
  pc : Int
  csr : List Int
  halted : Bool
  waiting : Bool
  rung : Bool
  done : Int
  inp : List Int
  out : List Int
  deriving DecidableEq
abbrev dI (n : Int) : D := .v (.int .i64 n)
abbrev dB (n : Bool) : D := .v (.bool n)
abbrev hartD (h : HartM) : List D := [ints h.regs, dI h.pc, ints h.csr, dB h.halted, dB h.waiting, dB h.rung, dI h.done, ints h.inp, ints h.out]
abbrev hartLV (h : HartM) : LV := .agg [.d (ints h.regs), di h.pc, .d (ints h.csr), dv (.bool h.halted), dv (.bool h.waiting), dv (.bool h.rung), di h.done, .d (ints h.inp), .d (ints h.out)]
abbrev hartR (h : HartM) : RV1 := .agg [oInts h.regs, .v (.int .i64 h.pc), oInts h.csr, .v (.bool h.halted), .v (.bool h.waiting), .v (.bool h.rung), .v (.int .i64 h.done), oInts h.inp, oInts h.out]

structure HartM.small (h : HartM) : Prop where
  regs : h.regs.length * 8 ≤ 140737488355328
  csr : h.csr.length * 8 ≤ 140737488355328
  inp : h.inp.length * 8 ≤ 140737488355328
  out : h.out.length * 8 ≤ 140737488355328

theorem HartM.small.lens {h : HartM} (hs : h.small) : h.regs.length ≤ 9223372036854775807 ∧ h.csr.length ≤ 9223372036854775807 ∧ h.inp.length ≤ 9223372036854775807 ∧ h.out.length ≤ 9223372036854775807 := by
  obtain ⟨h1, h2, h3, h4⟩ := hs
  omega

def hFault (h : HartM) : Int :=
  bif ((h.regs.length : Int) != 16) || (((h.csr.length : Int) != 11) || (h.regs.getD 0 0 != 0)) then 1 else
  bif !(h.regs.all isW) || (!(isW h.pc) || (!(h.csr.all isW) || (!(h.inp.all isW) || !(h.out.all isW)))) then 3 else
  bif decide ((h.inp.length : Int) > 40) || decide ((h.out.length : Int) > 40) then 2 else
  bif !(inR h.done 0 1000000000) then 3 else
  bif decide (h.csr.getD 0 0 > 3) || (decide (h.csr.getD 7 0 > 7) || (decide (h.csr.getD 10 0 > 8) || ((h.csr.getD 6 0 != 0) || (h.csr.getD 8 0 != 0)))) then 1 else 0

def hSz (m : HartM) (q : Int) : Int :=
  let q1 := q - m.regs.length
  let q2 := q1 - m.csr.length
  let q3 := q2 - m.inp.length
  let q4 := q3 - m.out.length
  if q1 < 0 ∨ q2 < 0 ∨ q3 < 0 ∨ q4 < 0 then -1 else q4
end Go.Proofs.YtojaakpnpdnbhaaGreatDoor.L

/- What the functions that ask a machine compute: contracts. -/
set_option linter.unusedVariables false
set_option linter.unusedSimpArgs false
set_option maxRecDepth 100000
namespace Go.Proofs.YtojaakpnpdnbhaaGreatDoor.L
open Go.RowKit
abbrev irR (p : Int × Int) : RV1 := .agg [.v (.int .i64 p.1), .v (.int .i64 p.2)]
abbrev irLV (p : Int × Int) : LV := .agg [di p.1, di p.2]

theorem hFault_zero {m : HartM} (h : hFault m = 0) : m.regs.length = 16 ∧ m.csr.length = 11 ∧ m.inp.length ≤ 40 ∧ m.out.length ≤ 40 := by
  unfold hFault at h
  cases h1 : (((m.regs.length : Int) != 16) || (((m.csr.length : Int) != 11) || (m.regs.getD 0 0 != 0))) with
  | true => rw [h1] at h; simp at h
  | false =>
    rw [h1, cond_false] at h
    cases h0 : !m.regs.all isW || (!isW m.pc || (!m.csr.all isW || (!m.inp.all isW || !m.out.all isW))) with
    | true => rw [h0] at h; simp at h
    | false =>
    rw [h0, cond_false] at h
    cases h2 : decide ((m.inp.length : Int) > 40) || decide ((m.out.length : Int) > 40) with
    | true => rw [h2] at h; simp at h
    | false =>
      simp at h1 h2
      omega
theorem fault_ne {m : HartM} (h : (hFault m != 0) = false) : hFault m = 0 := by simpa using h

def pend (m : HartM) : Int := (if m.csr.getD 9 0 ≠ 0 ∧ m.done ≥ m.csr.getD 9 0 then 1 else 0) + (if m.rung = true then 2 else 0) + (if 0 < m.inp.length then 4 else 0)
def pendingOf (m : HartM) : Int × Int := if hFault m = 0 then (0, pend m) else (hFault m, 0)
def csrOf (m : HartM) (k : Int) : Int := if k = 6 then pend m else if k = 8 then m.done else m.csr.getD k.toNat 0
def getCsr (m : HartM) (k : Int) : Int × Int := if hFault m = 0 then (if inR k 0 10 = true then (0, csrOf m k) else (3, 0)) else (hFault m, 0)
theorem inR_iff {n a b : Int} : inR n a b = true ↔ a ≤ n ∧ n ≤ b := by simp [inR]
end Go.Proofs.YtojaakpnpdnbhaaGreatDoor.L

/- What the functions compute that mark what a result owns, and look whether it is held: contracts. -/
set_option linter.unusedVariables false
set_option linter.unusedSimpArgs false
set_option maxRecDepth 100000
namespace Go.Proofs.YtojaakpnpdnbhaaGreatDoor.L
open Go.RowKit
/-- the numbers from k on -/
def markL (k : Int) (n : Nat) : List Int := (List.range n).map fun (i : Nat) => k + (i : Int)
theorem markL_len (k : Int) (n : Nat) : (markL k n).length = n := by simp [markL]
theorem markL_get (k : Int) (n i : Nat) (h : i < n) : (markL k n).getD i 0 = k + i := by simp [markL, List.getD, h]
abbrev rowE (l : List Int) : Ent := .row 2 1 l.length (intsF l)

theorem c_laws_markInt64S (l : List Int) (k : Int) (hl : l.length ≤ 1099511627776) (hk : 0 ≤ k) (hk2 : k ≤ 1099511627776) :
    MutOK Tryz.prog 85 [.row 0, di k] 1 [(0, rowE l)] (di (k + l.length)) 1 [(0, .row 2 1 l.length (intsF (markL k l.length)))] := by
  refine mut_fn_of lv85 Tryz.func85 rfl rfl (by kernel_rfl) rfl [] ?_
  refine ⟨{ i : Nat // i ≤ l.length }, fun i => ⟨frL [(0, .row 0), (1, di (k + (i.1 : Int))), (5, di i.1)], hpL [(0, .row 2 1 l.length fun j => if j < i.1 then [.v (.int .i64 (k + (j : Int)))] else intsF l j)], 1, 1⟩, fun i => l.length - i.1, ⟨0, by omega⟩,
    le_of [] rfl rfl rfl rfl (tellHp_row rfl rfl rfl (fun i hi => rfl) tellHp_nil) (tellFr_row rfl rfl (tellFr_v rfl (congrArg (Value.int .i64) (?_ : k = k + ((0 : Nat) : Int))) (tellFr_v rfl rfl trivial))), ?_⟩
  · omega
  rintro ⟨i, hi⟩
  refine bsplit_intro (fun h => ?_) (fun h => ?_)
  · have h : i < l.length := by simp at h; exact h
    refine ask_intro ⟨by omega, by simp; omega⟩ ?_
    refine ask_intro (by show i < l.length; exact h) ?_
    refine ⟨⟨i + 1, by omega⟩, le_of [] rfl rfl rfl rfl (tellHp_row rfl rfl rfl (fun j hj => ?_) tellHp_nil) (tellFr_row rfl rfl (tellFr_v rfl (congrArg (Value.int .i64) (?_ : IntKind.i64.wrap (k + (i : Int) + 1) = k + ((i + 1 : Nat) : Int))) (tellFr_v rfl (congrArg (Value.int .i64) (?_ : IntKind.i64.wrap ((i : Int) + 1) = ((i + 1 : Nat) : Int))) trivial))), ?_⟩
    · show (if j = i then splice (if j < i then [.v (.int .i64 (k + (j : Int)))] else intsF l j) 0 [.v (.int .i64 (k + (i : Int)))] else if j < i then [.v (.int .i64 (k + (j : Int)))] else intsF l j) = if j < i + 1 then [.v (.int .i64 (k + (j : Int)))] else intsF l j
      by_cases h1 : j = i
      · subst h1
        rw [if_pos rfl, if_neg (by omega), if_pos (by omega)]
        rfl
      · rw [if_neg h1]
        by_cases h2 : j < i
        · rw [if_pos h2, if_pos (by omega)]
        · rw [if_neg h2, if_neg (by omega)]
    · rw [wrap_i64 _ (by omega) (by omega)]; omega
    · exact wrap_i64 (i + 1) (by omega) (by omega)
    · show l.length - (i + 1) < l.length - i
      omega
  · simp at h
    have e : i = l.length := by omega
    subst e
    refine chk_intro (by kernel_rfl) ⟨tellV_v rfl rfl, tellHp_row rfl rfl rfl (fun j hj => ?_) tellHp_nil⟩
    show (if j < l.length then [.v (.int .i64 (k + (j : Int)))] else intsF l j) = intsF (markL k l.length) j
    rw [if_pos hj]
    show _ = [D.v (.int .i64 ((markL k l.length).getD j 0))]
    rw [markL_get _ _ _ hj]

theorem c_laws_heldInt64S (k : Int) (n : Nat) (hn : n ≤ 1099511627776) (hk : 0 ≤ k) (hk2 : k ≤ 1099511627776) : FnOK Tryz.prog 86 [.d (.l n (intsF (markL k n))), di k] (ri (k + n)) := by
  refine fn_of lv86 Tryz.func86 rfl rfl (by kernel_rfl) rfl ?_
  refine ⟨{ i : Nat // i ≤ n }, fun i => ⟨frL [(0, .d (.l n (intsF (markL k n)))), (1, di (k + (i.1 : Int))), (5, di i.1)], hpL [], 0, 0⟩, fun i => n - i.1, ⟨0, by omega⟩,
    le_of [] rfl rfl rfl rfl tellHp_nil (tellFr_d rfl (DLe.refl _) (tellFr_v rfl (congrArg (Value.int .i64) (?_ : k = k + ((0 : Nat) : Int))) (tellFr_v rfl rfl trivial))), ?_⟩
  · omega
  rintro ⟨i, hi⟩
  refine bsplit_intro (fun h => ?_) (fun h => ?_)
  · have h : i < n := by simp at h; exact h
    refine ask_intro ⟨by omega, by simp; omega, rfl⟩ ?_
    refine bsplit_of_false ?_ ?_
    · show ((markL k n).getD i 0 != k + (i : Int)) = false
      rw [markL_get _ _ _ h]; simp
    refine ⟨⟨i + 1, by omega⟩, le_of [] rfl rfl rfl rfl tellHp_nil (tellFr_d rfl (DLe.refl _) (tellFr_v rfl (congrArg (Value.int .i64) (?_ : IntKind.i64.wrap (k + (i : Int) + 1) = k + ((i + 1 : Nat) : Int))) (tellFr_v rfl (congrArg (Value.int .i64) (?_ : IntKind.i64.wrap ((i : Int) + 1) = ((i + 1 : Nat) : Int))) trivial))), ?_⟩
    · rw [wrap_i64 _ (by omega) (by omega)]; omega
    · exact wrap_i64 (i + 1) (by omega) (by omega)
    · show n - (i + 1) < n - i
      omega
  · simp at h
    refine ⟨⟨congrArg (Value.int .i64) (?_ : k + (i : Int) = k + (n : Int)), trivial⟩, rfl⟩
    omega

abbrev hartK (m : HartM) (a b c d : Nat) : List LV := [.row a, di m.pc, .row b, dv (.bool m.halted), dv (.bool m.waiting), dv (.bool m.rung), di m.done, .row c, .row d]
abbrev rowM (l : List Int) (k : Int) : Ent := .row 2 1 l.length (intsF (markL k l.length))
abbrev datM (l : List Int) (k : Int) : LV := .d (.l l.length (intsF (markL k l.length)))
structure HartM.few (m : HartM) : Prop where
  regs : m.regs.length ≤ 1048576
  csr : m.csr.length ≤ 1048576
  inp : m.inp.length ≤ 1048576
  out : m.out.length ≤ 1048576
def hLen (m : HartM) : Int := m.regs.length + m.csr.length + m.inp.length + m.out.length
abbrev hK1 (m : HartM) (k : Int) : Int := k + m.regs.length
abbrev hK2 (m : HartM) (k : Int) : Int := hK1 m k + m.csr.length
abbrev hK3 (m : HartM) (k : Int) : Int := hK2 m k + m.inp.length
abbrev hK4 (m : HartM) (k : Int) : Int := hK3 m k + m.out.length
abbrev hMarks (m : HartM) (k : Int) : List (Nat × Ent) := [(0, rowM m.regs k), (1, rowM m.csr (hK1 m k)), (2, rowM m.inp (hK2 m k)), (3, rowM m.out (hK3 m k))]
abbrev hRows (m : HartM) : List (Nat × Ent) := [(0, rowE m.regs), (1, rowE m.csr), (2, rowE m.inp), (3, rowE m.out)]

theorem hK_le (m : HartM) (k : Int) (hf : m.few) (hk : 0 ≤ k) (hk2 : k ≤ 1048576) : (0 ≤ hK1 m k ∧ hK1 m k ≤ 1099511627776) ∧ (0 ≤ hK2 m k ∧ hK2 m k ≤ 1099511627776) ∧ (0 ≤ hK3 m k ∧ hK3 m k ≤ 1099511627776) ∧ (0 ≤ hK4 m k ∧ hK4 m k ≤ 1099511627776) := by
  obtain ⟨b1, b2, b3, b4⟩ := hf
  unfold hK4 hK3 hK2 hK1
  omega
abbrev hrLV (p : Int × HartM) : LV := .agg [di p.1, .d (ints p.2.regs), di p.2.pc, .d (ints p.2.csr), dv (.bool p.2.halted), dv (.bool p.2.waiting), dv (.bool p.2.rung), di p.2.done, .d (ints p.2.inp), .d (ints p.2.out)]
abbrev hrR (p : Int × HartM) : RV1 := .agg [.v (.int .i64 p.1), oInts p.2.regs, .v (.int .i64 p.2.pc), oInts p.2.csr, .v (.bool p.2.halted), .v (.bool p.2.waiting), .v (.bool p.2.rung), .v (.int .i64 p.2.done), oInts p.2.inp, oInts p.2.out]

end Go.Proofs.YtojaakpnpdnbhaaGreatDoor.L

/- What the functions compute that make a new machine: contracts. -/
set_option linter.unusedVariables false
set_option linter.unusedSimpArgs false
set_option maxRecDepth 100000
namespace Go.Proofs.YtojaakpnpdnbhaaGreatDoor.L
open Go.RowKit
def hartZ : HartM := ⟨[], 0, [], false, false, false, 0, [], []⟩
def newHart (l : List Int) : Int × HartM :=
  bif decide ((l.length : Int) > 40) then (2, hartZ) else bif !(l.all isW) then (3, hartZ) else (0, { hartZ with regs := List.replicate 16 0, csr := List.replicate 11 0, inp := l })
theorem rep_get (n i : Nat) : intsF (List.replicate n 0) i = [.v (.int .i64 0)] := by
  show [D.v (.int .i64 ((List.replicate n (0 : Int)).getD i 0))] = _
  have : (List.replicate n (0 : Int)).getD i 0 = 0 := by
    simp only [List.getD, List.getElem?_replicate]
    split <;> rfl
  rw [this]
end Go.Proofs.YtojaakpnpdnbhaaGreatDoor.L

/- What the functions compute that copy and ring a machine: contracts. -/
set_option linter.unusedVariables false
set_option linter.unusedSimpArgs false
set_option maxRecDepth 100000
namespace Go.Proofs.YtojaakpnpdnbhaaGreatDoor.L
open Go.RowKit
def ringHart (m : HartM) : Int × HartM := if hFault m = 0 then (0, { m with rung := true }) else (hFault m, hartZ)
end Go.Proofs.YtojaakpnpdnbhaaGreatDoor.L

/- What the functions that look at pages and memories compute: contracts. -/
set_option linter.unusedVariables false
set_option linter.unusedSimpArgs false
set_option maxRecDepth 100000
namespace Go.Proofs.YtojaakpnpdnbhaaGreatDoor.L
open Go.RowKit
structure PageM where
  to : Int
  kinds : Int
  deriving DecidableEq
abbrev pageD (p : PageM) : List D := [.v (.int .i64 p.to), .v (.int .i64 p.kinds)]
abbrev pagesF (l : List PageM) (i : Nat) : List D := pageD (l.getD i ⟨0, 0⟩)
abbrev pages (l : List PageM) : D := .l l.length (pagesF l)
def firstNZ : List Int → Int
  | [] => 0
  | x :: xs => if x = 0 then firstNZ xs else x
def pageBad (top : Int) (p : PageM) : Int := bif !inR p.to (-1) (top - 1) || !inR p.kinds 0 7 then 3 else bif (p.to == -1) && (p.kinds != 0) then 1 else 0
def pagesFault (l : List PageM) (top : Int) : Int := bif !inR top 1 24 then 3 else bif (l.length : Int) != 8 then 1 else firstNZ (l.map (pageBad top))
theorem map_drop {α : Type} (d : α) (f : α → Int) (l : List α) (i : Nat) (h : i < l.length) : (l.drop i).map f = f (l.getD i d) :: (l.drop (i + 1)).map f := by
  rw [List.drop_eq_getElem_cons h, List.map_cons]
  simp [List.getD, List.getElem?_eq_getElem h]
def memFault (m : List Int) : Int := bif ((m.length : Int) == 0) || (decide ((m.length : Int) > 192) || (Int.tmod m.length 8 != 0)) then 1 else bif !m.all isW then 3 else 0
end Go.Proofs.YtojaakpnpdnbhaaGreatDoor.L

/- How a machine, a word, a row of words that a law is handed is read: as data, of a size that a process can hold. -/
set_option linter.unusedVariables false
set_option linter.unusedSimpArgs false
set_option maxRecDepth 100000
namespace Go.Proofs.YtojaakpnpdnbhaaGreatDoor.L
open Go.RowKit Go.ChangeShapes Go.WideShapes Go.ChangeAt

theorem own : ownKnob Tryz.prog.godebug = none := by kernel_rfl
theorem laidOut : laidOutB Tryz.prog = true := by kernel_rfl
theorem reach_eq : reachBytes = 140737488351232 := by decide
abbrev ok64 (n : Int) : Prop := (Lit.int .i64 n).wf = true
theorem ok64_le {n : Int} (h : ok64 n) : -9223372036854775808 ≤ n ∧ n ≤ 9223372036854775807 := by
  have h' : IntKind.i64.min ≤ n ∧ n ≤ 9223372036854775807 := by simpa [ok64, Lit.wf] using h
  have e : IntKind.i64.min = -9223372036854775808 := by decide
  rw [e] at h'
  exact h'
abbrev okInts (l : List Int) : Prop := l.length * 8 ≤ reachBytes ∧ ∀ x ∈ l, ok64 x

theorem reads_int64 : ReadsT Tryz.prog 2 1 Int (fun n => [.v (.int .i64 n)]) ok64 := ReadsT.int Tryz.underlying2 (by kernel_rfl)
theorem reads_bool : ReadsT Tryz.prog 4 1 Bool (fun n => [.v (.bool n)]) (fun _ => True) := ReadsT.bool Tryz.underlying4 (by kernel_rfl)
theorem reads_ints : ReadsT Tryz.prog 44 1 (List Int) (fun l => [ints l]) okInts := ReadsT.slice reads_int64 Tryz.underlying44 (by kernel_rfl) (by decide) 0 (by kernel_rfl)
structure HartM.ok (h : HartM) : Prop where
  small : h.small
  pc : ok64 h.pc
  done : ok64 h.done
  regs : okInts h.regs
  csr : okInts h.csr
  inp : okInts h.inp
  out : okInts h.out
end Go.Proofs.YtojaakpnpdnbhaaGreatDoor.L

/- What the functions compute that turn a machine that is pointed at: contracts. -/
set_option linter.unusedVariables false
set_option linter.unusedSimpArgs false
set_option maxRecDepth 100000
namespace Go.Proofs.YtojaakpnpdnbhaaGreatDoor.L
open Go.RowKit
theorem set_row (l : List Int) (i : Nat) (v : Int) (h : i < l.length) (j : Nat) : (if j = i then splice (intsF l j) 0 [D.v (.int .i64 v)] else intsF l j) = intsF (l.set i v) j := by
  by_cases e : j = i
  · subst e
    rw [if_pos rfl]
    show [D.v (.int .i64 v)] = [D.v (.int .i64 ((l.set j v).getD j 0))]
    simp [List.getD, h]
  · rw [if_neg e]
    show [D.v (.int .i64 (l.getD j 0))] = [D.v (.int .i64 ((l.set i v).getD j 0))]
    simp [List.getD, List.getElem?_set_ne (Ne.symm e)]
def backM (m : HartM) : HartM := { m with pc := m.csr.getD 2 0, csr := m.csr.set 0 (IntKind.i64.wrap (2 + IntKind.i64.wrap (Int.tdiv (m.csr.getD 0 0) 2))) }
end Go.Proofs.YtojaakpnpdnbhaaGreatDoor.L

/- What the functions compute that send a machine back from a trap: contracts. -/
set_option linter.unusedVariables false
set_option linter.unusedSimpArgs false
set_option maxRecDepth 100000
namespace Go.Proofs.YtojaakpnpdnbhaaGreatDoor.L
open Go.RowKit
def backHart (m : HartM) : Int × HartM := if hFault m = 0 then (0, backM m) else (hFault m, hartZ)
end Go.Proofs.YtojaakpnpdnbhaaGreatDoor.L

/- What the functions compute that turn a machine that is pointed at: contracts. -/
set_option linter.unusedVariables false
set_option linter.unusedSimpArgs false
set_option maxRecDepth 100000
namespace Go.Proofs.YtojaakpnpdnbhaaGreatDoor.L
open Go.RowKit
/-- a store into a row of whole numbers, at one place -/
theorem set_at {l : List Int} {i j : Nat} {v : Int} {x : List D} (h : x = intsF l j) (hi : i < l.length) : (if j = i then splice x 0 [D.v (.int .i64 v)] else x) = intsF (l.set i v) j := by
  rw [h]; exact set_row l i v hi j
def trapM (m : HartM) (c t : Int) : HartM := { m with pc := m.csr.getD 1 0, csr := (((m.csr.set 2 m.pc).set 3 c).set 4 t).set 0 (IntKind.i64.wrap (Int.tmod (m.csr.getD 0 0) 2 * 2)), waiting := false }
def trapHart (m : HartM) (c t : Int) : Int × HartM := if hFault m = 0 then (bif !inR c 0 31 || !isW t then (3, hartZ) else (0, trapM m c t)) else (hFault m, hartZ)
theorem upto_ints (a b : List Int) (i : Nat) : upto a.length (intsF a) (intsF b) i = intsF (a ++ b) i := by
  unfold upto
  show _ = [D.v (.int .i64 ((a ++ b).getD i 0))]
  split
  · rename_i h; show [D.v (.int .i64 (a.getD i 0))] = _; simp [List.getD, List.getElem?_append, h]
  · rename_i h; show [D.v (.int .i64 (b.getD (i - a.length) 0))] = _; simp [List.getD, List.getElem?_append, h]
def feedHart (m : HartM) (l : List Int) : Int × HartM :=
  if hFault m = 0 then (bif !l.all isW then (3, hartZ) else bif decide ((m.inp.length : Int) + l.length > 40) then (2, hartZ) else (0, { m with inp := m.inp ++ l })) else (hFault m, hartZ)
end Go.Proofs.YtojaakpnpdnbhaaGreatDoor.L

/- What the functions compute that set a number of a machine: contracts. -/
set_option linter.unusedVariables false
set_option linter.unusedSimpArgs false
set_option maxRecDepth 100000
namespace Go.Proofs.YtojaakpnpdnbhaaGreatDoor.L
open Go.RowKit
def wrapW (n : Int) : Int := n % 4294967296
theorem wrapW_le (n : Int) : 0 ≤ wrapW n ∧ wrapW n ≤ 4294967295 := by unfold wrapW; omega
theorem and_mask (a : Int) : IntKind.i64.wrap (BitVec.ofInt IntKind.i64.bits a &&& BitVec.ofInt IntKind.i64.bits 4294967295).toNat = wrapW a := by
  have e : (BitVec.ofInt IntKind.i64.bits a &&& BitVec.ofInt IntKind.i64.bits 4294967295).toNat = (a % 18446744073709551616).toNat % 4294967296 := by
    rw [BitVec.toNat_and, BitVec.toNat_ofInt, BitVec.toNat_ofInt]
    show (a % 18446744073709551616).toNat &&& (2 ^ 32 - 1) = _
    rw [Nat.and_two_pow_sub_one_eq_mod]
  rw [e]
  unfold wrapW
  have : (((a % 18446744073709551616).toNat % 4294967296 : Nat) : Int) = a % 4294967296 := by omega
  rw [this]
  exact wrap_i64 _ (by omega) (by omega)
theorem wrap_u32 (a : Int) : IntKind.u32.wrap a = a % 4294967296 := by
  simp [IntKind.wrap, IntKind.bits, IntKind.signed]
def setCsrL (m : HartM) (k v : Int) : HartM := { m with csr := m.csr.set k.toNat v }
def setM (m : HartM) (k w0 : Int) : HartM :=
  if k = 0 then setCsrL m k (Int.tmod (wrapW w0) 4) else if k = 7 then setCsrL m k (Int.tmod (wrapW w0) 8) else if k = 10 then setCsrL m k (if wrapW w0 ≤ 8 then wrapW w0 else 0)
  else if k = 6 then { m with rung := m.rung && decide (Int.tmod (wrapW w0) 4 < 2) } else if k = 8 then m else setCsrL m k (wrapW w0)
def setCsr (m : HartM) (k w : Int) : Int × HartM := if hFault m = 0 then (bif !inR k 0 10 then (3, hartZ) else (0, setM m k w)) else (hFault m, hartZ)
end Go.Proofs.YtojaakpnpdnbhaaGreatDoor.L

/- What the functions compute that draw numbers out of a code's bytes: contracts. -/
set_option linter.unusedVariables false
set_option linter.unusedSimpArgs false
set_option maxRecDepth 100000
namespace Go.Proofs.YtojaakpnpdnbhaaGreatDoor.L
open Go.RowKit
abbrev bytesD (c : List Int) : D := .l c.length fun i => [.v (.int .u8 (c.getD i 0))]
abbrev srcBox (c : List Int) (p : Int) : Ent := .box 91 [.d (bytesD c), di p]
structure okCode (c : List Int) : Prop where
  len : c.length ≤ 1048576
  byte : ∀ x ∈ c, 0 ≤ x ∧ x ≤ 255
theorem okCode.at {c : List Int} (h : okCode c) (i : Nat) : 0 ≤ c.getD i 0 ∧ c.getD i 0 ≤ 255 := by
  rcases Nat.lt_or_ge i c.length with hi | hi
  · have : c.getD i 0 = c[i] := by simp [List.getD, List.getElem?_eq_getElem hi]
    rw [this]; exact h.byte _ (List.getElem_mem hi)
  · simp [List.getD, List.getElem?_eq_none hi]
def nxRaw (c : List Int) (p n : Int) : Int :=
  if (c.length : Int) = 0 then p * 7 else
  if n > 200 then (c.getD (Int.tmod p c.length).toNat 0 + Int.tdiv p c.length * 37) * 251 + c.getD (Int.tmod (p + 1) c.length).toNat 0 * 13 + p
  else c.getD (Int.tmod p c.length).toNat 0 + Int.tdiv p c.length * 37
def nx (c : List Int) (p n : Int) : Int := if n < 1 then 0 else Int.tmod (nxRaw c p n) n
theorem raw1 {b q : Int} (h1 : 0 ≤ b) (h2 : b ≤ 255) (h3 : 0 ≤ q) (h4 : q ≤ 1099511627776) : IntKind.i64.wrap (IntKind.i64.wrap b + IntKind.i64.wrap (IntKind.i64.wrap q * 37)) = b + q * 37 := by
  simp only [IntKind.wrap_i64]; omega
theorem tdiv_le {a b : Int} (h1 : 0 ≤ a) (h2 : 0 < b) : 0 ≤ Int.tdiv a b ∧ Int.tdiv a b ≤ a := ⟨Int.tdiv_nonneg h1 (by omega), Int.tdiv_le_self b h1⟩
theorem tmod_in {a b : Int} (h1 : 0 ≤ a) (h2 : 0 < b) : 0 ≤ Int.tmod a b ∧ Int.tmod a b < b := ⟨Int.tmod_nonneg b h1, Int.tmod_lt_of_pos a h2⟩
theorem nxRaw_le {c : List Int} (hc : okCode c) {p : Int} (h1 : 0 ≤ p) (n : Int) : 0 ≤ nxRaw c p n := by
  have a := hc.at (Int.tmod p c.length).toNat
  have b := hc.at (Int.tmod (p + 1) c.length).toNat
  have d : 0 ≤ Int.tdiv p c.length := Int.tdiv_nonneg h1 (Int.natCast_nonneg _)
  unfold nxRaw
  split
  · omega
  · split <;> omega
theorem nx_in {c : List Int} (hc : okCode c) {p : Int} (h1 : 0 ≤ p) {n : Int} (hn : 1 ≤ n) : 0 ≤ nx c p n ∧ nx c p n < n := by
  unfold nx
  rw [if_neg (by omega)]
  exact tmod_in (nxRaw_le hc h1 n) (by omega)
theorem c_spec_l1Next (c : List Int) (hc : okCode c) (p n : Int) (hp : 0 ≤ p) (hp2 : p ≤ 549755813888) : MutOK Tryz.prog 58 [.ptr 0 0, di n] 1 [(0, srcBox c p)] (di (nx c p n)) 1 [(0, srcBox c (p + 1))] := by
  refine mut_fn_of lv58 Tryz.func58 rfl rfl (by kernel_rfl) rfl [] ?_
  have hw : IntKind.i64.wrap (p + 1) = p + 1 := wrap_i64 _ (by omega) (by omega)
  have hw2 : IntKind.i64.wrap (IntKind.i64.wrap (p + 1) - 1) = p := by rw [hw]; exact (wrap_i64 _ (by omega) (by omega)).trans (by omega)
  have a1 := hc.at (Int.tmod p c.length).toNat
  have a2 := hc.at (Int.tmod (p + 1) c.length).toNat
  have hlen := hc.len
  generalize hq : nx c p n = r
  unfold nx at hq
  (repeat' (first | refine bsplit_true ?_ | refine bsplit_false ?_ | refine ask_intro ?_ ?_ | refine chk_intro (by kernel_rfl) ?_)) <;> (try (first | omega | decide))
  refine bsplit_intro (fun h1 => ?_) (fun h1 => ?_)
  · rw [if_pos (by simpa using h1)] at hq
    subst hq
    (repeat' (first | refine bsplit_true ?_ | refine bsplit_false ?_ | refine ask_intro ?_ ?_ | refine chk_intro (by kernel_rfl) ?_)) <;> (try (first | omega | decide))
    exact ⟨tellV_v rfl rfl, tellHp_box rfl rfl ⟨DLe.refl _, congrArg (Value.int .i64) hw, trivial⟩ tellHp_nil⟩
  have hn : ¬ n < 1 := by simpa using h1
  rw [if_neg hn] at hq
  unfold nxRaw at hq
  refine bsplit_intro (fun h2 => ?_) (fun h2 => ?_)
  · rw [if_pos (by simpa using h2)] at hq
    subst hq
    refine ask_intro (show n ≠ 0 by omega) ?_
    refine chk_intro (by kernel_rfl) ⟨tellV_v rfl (congrArg (Value.int .i64) ?_), tellHp_box rfl rfl ⟨DLe.refl _, congrArg (Value.int .i64) hw, trivial⟩ tellHp_nil⟩
    rw [hw2, wrap_i64 (p * 7) (by omega) (by omega)]
  have hk : ¬ (c.length : Int) = 0 := by simpa using h2
  rw [if_neg hk] at hq
  have b1 := tmod_in hp (show 0 < (c.length : Int) by omega)
  have b2 := tmod_in (show 0 ≤ p + 1 by omega) (show 0 < (c.length : Int) by omega)
  have b3 := tdiv_le hp (show 0 < (c.length : Int) by omega)
  refine ask_intro (show (c.length : Int) ≠ 0 from hk) ?_
  refine ask_intro ⟨by show 0 ≤ Int.tmod (IntKind.i64.wrap (IntKind.i64.wrap (p + 1) - 1)) _; rw [hw2]; exact b1.1, by show Int.tmod (IntKind.i64.wrap (IntKind.i64.wrap (p + 1) - 1)) _ < _; rw [hw2]; exact b1.2, rfl⟩ ?_
  refine ask_intro (show (c.length : Int) ≠ 0 from hk) ?_
  (repeat' (first | refine bsplit_true ?_ | refine bsplit_false ?_ | refine ask_intro ?_ ?_ | refine chk_intro (by kernel_rfl) ?_)) <;> (try (first | omega | decide))
  refine bsplit_intro (fun h3 => ?_) (fun h3 => ?_)
  · rw [if_pos (by simpa using h3)] at hq
    refine ask_intro (show (c.length : Int) ≠ 0 from hk) ?_
    refine ask_intro ⟨by show 0 ≤ Int.tmod (IntKind.i64.wrap (IntKind.i64.wrap (IntKind.i64.wrap (p + 1) - 1) + 1)) _; rw [hw2, hw]; exact b2.1, by show Int.tmod (IntKind.i64.wrap (IntKind.i64.wrap (IntKind.i64.wrap (p + 1) - 1) + 1)) _ < _; rw [hw2, hw]; exact b2.2, rfl⟩ ?_
    (repeat' (first | refine bsplit_true ?_ | refine bsplit_false ?_ | refine ask_intro ?_ ?_ | refine chk_intro (by kernel_rfl) ?_)) <;> (try (first | omega | decide))
    refine ⟨tellV_v rfl (congrArg (Value.int .i64) ?_), tellHp_box rfl rfl ⟨DLe.refl _, congrArg (Value.int .i64) hw, trivial⟩ tellHp_nil⟩
    rw [← hq, hw2, hw]
    congr 1
    generalize c.getD (Int.tmod p c.length).toNat 0 = u1 at *
    generalize c.getD (Int.tmod (p + 1) c.length).toNat 0 = u2 at *
    generalize Int.tdiv p c.length = u3 at *
    simp only [IntKind.wrap_i64]
    omega
  rw [if_neg (by simpa using h3)] at hq
  refine ask_intro (show n ≠ 0 by omega) ?_
  refine chk_intro (by kernel_rfl) ⟨tellV_v rfl (congrArg (Value.int .i64) ?_), tellHp_box rfl rfl ⟨DLe.refl _, congrArg (Value.int .i64) hw, trivial⟩ tellHp_nil⟩
  rw [← hq, hw2]
  congr 1
  generalize c.getD (Int.tmod p c.length).toNat 0 = u1 at *
  generalize Int.tdiv p c.length = u3 at *
  simp only [IntKind.wrap_i64]
  omega
theorem c_spec_l1Source (c : List Int) : MutOK Tryz.prog 25 [.d (bytesD c)] 0 [] (.ptr 0 0) 1 [(0, srcBox c 0)] := by
  refine mut_fn_of lv25 Tryz.func25 rfl rfl (by kernel_rfl) rfl [(0, 4160)] ?_
  refine chk_intro (by kernel_rfl) ⟨⟨rfl, rfl⟩, tellHp_box rfl rfl ⟨DLe.refl _, rfl, trivial⟩ tellHp_nil⟩
theorem c_spec_l1Chance (c : List Int) (hc : okCode c) (p n : Int) (hp : 0 ≤ p) (hp2 : p ≤ 549755813888) : MutOK Tryz.prog 28 [.ptr 0 0, di n] 1 [(0, srcBox c p)] (dv (.bool (nx c p n == 0))) 1 [(0, srcBox c (p + 1))] := by
  refine mut_fn_of lv28 Tryz.func28 rfl rfl (by kernel_rfl) rfl [] ?_
  refine .inr ⟨rfl, use_mut ⟨_, _, _, _, _, _, rfl, rfl, c_spec_l1Next c hc p n hp hp2, rfl, ?_⟩⟩
  refine chk_intro (by kernel_rfl) ⟨tellV_v rfl rfl, tellHp_box rfl rfl ⟨DLe.refl _, rfl, trivial⟩ tellHp_nil⟩
/-- what is picked -/
def pk (c : List Int) (p : Int) (l : List Int) : Int := l.getD (nx c p l.length).toNat 0
theorem pk_mem {c : List Int} (hc : okCode c) {p : Int} (hp : 0 ≤ p) {l : List Int} (hl : l ≠ []) : pk c p l ∈ l := by
  have h1 : 1 ≤ (l.length : Int) := by cases l with | nil => exact absurd rfl hl | cons => simp; omega
  have h2 := nx_in hc hp h1
  have h3 : (nx c p l.length).toNat < l.length := by omega
  unfold pk
  simp [List.getD, List.getElem?_eq_getElem h3]
theorem c_spec_l1Pick0 (c : List Int) (hc : okCode c) (p : Int) (l : List Int) (hp : 0 ≤ p) (hp2 : p ≤ 549755813888) (hl : l ≠ []) : MutOK Tryz.prog 59 [.ptr 0 0, .row 1] 2 [(0, srcBox c p), (1, rowE l)] (di (pk c p l)) 2 [(0, srcBox c (p + 1)), (1, rowE l)] := by
  have h1 : 1 ≤ (l.length : Int) := by cases l with | nil => exact absurd rfl hl | cons => simp; omega
  have h2 := nx_in hc hp h1
  refine mut_fn_of lv59 Tryz.func59 rfl rfl (by kernel_rfl) rfl [] ?_
  refine .inr ⟨rfl, use_mut ⟨_, _, _, _, _, _, rfl, rfl, c_spec_l1Next c hc p l.length hp hp2, rfl, ?_⟩⟩
  refine ask_intro h2 ?_
  refine ask_intro (show (nx c p l.length).toNat < l.length by omega) ?_
  refine chk_intro (by kernel_rfl) ⟨tellV_v rfl rfl, tellHp_box rfl rfl ⟨DLe.refl _, rfl, trivial⟩ (tellHp_row rfl rfl rfl (fun j hj => rfl) tellHp_nil)⟩
/-- the elements of a literal -/
abbrev litD (l : List Int) (i : Nat) : List D := (l.map fun v => [D.v (.int .i64 v)]).getD i []
theorem litD_eq (l : List Int) (i : Nat) (h : i < l.length) : litD l i = intsF l i := by
  show _ = [D.v (.int .i64 (l.getD i 0))]
  simp [litD, List.getD, h]
theorem c_spec_l1Pick (c : List Int) (hc : okCode c) (p : Int) (l : List Int) (hp : 0 ≤ p) (hp2 : p ≤ 549755813888) (hl : l ≠ []) : MutOK Tryz.prog 59 [.ptr 0 0, .row 1] 2 [(0, srcBox c p), (1, .row 2 1 l.length (litD l))] (di (pk c p l)) 2 [(0, srcBox c (p + 1)), (1, rowE l)] :=
  (c_spec_l1Pick0 c hc p l hp hp2 hl).rows ⟨rfl, rfl, rfl, ⟨rfl, rfl, rfl, fun i hi => litD_eq l i hi⟩, trivial⟩
theorem pickE (c : List Int) (hc : okCode c) (p : Int) (l : List Int) (hp : 0 ≤ p) (hp2 : p ≤ 549755813888) (hl : l ≠ []) : ∃ v, v ∈ l ∧ MutOK Tryz.prog 59 [.ptr 0 0, .row 1] 2 [(0, srcBox c p), (1, .row 2 1 l.length (litD l))] (di v) 2 [(0, srcBox c (p + 1)), (1, rowE l)] :=
  ⟨pk c p l, pk_mem hc hp hl, c_spec_l1Pick c hc p l hp hp2 hl⟩
theorem nextE (c : List Int) (hc : okCode c) (p n : Int) (hp : 0 ≤ p) (hp2 : p ≤ 549755813888) (hn : 1 ≤ n) : ∃ v, 0 ≤ v ∧ v < n ∧ MutOK Tryz.prog 58 [.ptr 0 0, di n] 1 [(0, srcBox c p)] (di v) 1 [(0, srcBox c (p + 1))] :=
  ⟨nx c p n, (nx_in hc hp hn).1, (nx_in hc hp hn).2, c_spec_l1Next c hc p n hp hp2⟩
theorem chanceE (c : List Int) (hc : okCode c) (p n : Int) (hp : 0 ≤ p) (hp2 : p ≤ 549755813888) : ∃ v : Bool, MutOK Tryz.prog 28 [.ptr 0 0, di n] 1 [(0, srcBox c p)] (dv (.bool v)) 1 [(0, srcBox c (p + 1))] :=
  ⟨_, c_spec_l1Chance c hc p n hp hp2⟩
attribute [irreducible] nx pk
def wd (c : List Int) (p : Int) : Int := pk c (p + 1 + 1 + 1 + 1) [nx c p 90, nx c (p + 1) 9, IntKind.i64.wrap (4294967295 - nx c (p + 1 + 1) 9), 2147483648, 2147483647, 0, IntKind.i64.wrap (nx c (p + 1 + 1 + 1) 60000 * 70000)]
attribute [irreducible] wd
def wi (c : List Int) (p : Int) : Int := pk c (p + 5 + 5 + 5) [wd c p, wd c (p + 5), wd c (p + 5 + 5), -1, -9223372036854775808, 9223372036854775807, 4294967296, -5]
attribute [irreducible] wi
end Go.Proofs.YtojaakpnpdnbhaaGreatDoor.L

/- What the law functions compute on pages and lonely machines: contracts. -/
set_option linter.unusedVariables false
set_option linter.unusedSimpArgs false
set_option maxRecDepth 100000
namespace Go.Proofs.YtojaakpnpdnbhaaGreatDoor.L
open Go.RowKit
abbrev pageLV (p : PageM) : LV := .agg [di p.to, di p.kinds]
theorem drop_consG {α : Type} (d : α) (l : List α) (i : Nat) (h : i < l.length) : l.drop i = l.getD i d :: l.drop (i + 1) :=
  (List.drop_eq_getElem_cons h).trans (by rw [show l[i] = l.getD i d by simp [List.getD, List.getElem?_eq_getElem h]])
end Go.Proofs.YtojaakpnpdnbhaaGreatDoor.L

/- The law function over a machine that is rung answers true. -/
set_option linter.unusedVariables false
set_option linter.unusedSimpArgs false
set_option maxRecDepth 100000
namespace Go.Proofs.YtojaakpnpdnbhaaGreatDoor.L
open Go.RowKit
theorem few_of_sz {m : HartM} (h : decide (hSz m 1048576 < 0) = false) : m.few := by
  simp only [decide_eq_false_iff_not] at h
  unfold hSz at h
  simp only at h
  split at h
  · omega
  · rename_i h2
    exact ⟨by omega, by omega, by omega, by omega⟩
theorem hartZ_few : hartZ.few ∧ hartZ.small := ⟨⟨by decide, by decide, by decide, by decide⟩, ⟨by decide, by decide, by decide, by decide⟩⟩
theorem ringHart_few (m : HartM) (hf : m.few) (hs : m.small) : (ringHart m).2.few ∧ (ringHart m).2.small := by
  unfold ringHart
  split
  · exact ⟨⟨hf.regs, hf.csr, hf.inp, hf.out⟩, ⟨hs.regs, hs.csr, hs.inp, hs.out⟩⟩
  · exact hartZ_few
end Go.Proofs.YtojaakpnpdnbhaaGreatDoor.L

/- What the functions that look at a lonely machine compute: contracts. -/
set_option linter.unusedVariables false
set_option linter.unusedSimpArgs false
set_option maxRecDepth 100000
namespace Go.Proofs.YtojaakpnpdnbhaaGreatDoor.L
open Go.RowKit
theorem LVLe.pre (xs ys : List D) : LVLe (.dptr (xs ++ ys)) (.dptr xs) := fun W F v hv => by
  cases hv with
  | dptr vs hs hI hc hr =>
    refine .dptr vs hs hI (fun j hj => hc j (by simp; omega)) (fun j hj => ?_)
    have := hr j (by simp; omega)
    have e : (xs ++ ys).getD j (.v undef) = xs.getD j (.v undef) := by simp [List.getD, List.getElem?_append, hj]
    rwa [e] at this
structure SoloM where
  hart : HartM
  pages : List PageM
  mem : List Int
  deriving DecidableEq
abbrev soloD (x : SoloM) : List D := [ints x.hart.regs, dI x.hart.pc, ints x.hart.csr, dB x.hart.halted, dB x.hart.waiting, dB x.hart.rung, dI x.hart.done, ints x.hart.inp, ints x.hart.out, Go.Proofs.YtojaakpnpdnbhaaGreatDoor.L.pages x.pages, ints x.mem]
abbrev soloLV (x : SoloM) : LV := .agg [.d (ints x.hart.regs), di x.hart.pc, .d (ints x.hart.csr), dv (.bool x.hart.halted), dv (.bool x.hart.waiting), dv (.bool x.hart.rung), di x.hart.done, .d (ints x.hart.inp), .d (ints x.hart.out), .d (Go.Proofs.YtojaakpnpdnbhaaGreatDoor.L.pages x.pages), .d (ints x.mem)]
structure SoloM.small (x : SoloM) : Prop where
  hart : x.hart.small
  pages : x.pages.length * 16 ≤ 140737488355328
  mem : x.mem.length * 8 ≤ 140737488355328
def soloFault (x : SoloM) : Int := if hFault x.hart = 0 then (if pagesFault x.pages 8 = 0 then (bif (memFault x.mem != 0) || ((x.mem.length : Int) != 64) then 1 else 0) else pagesFault x.pages 8) else hFault x.hart
theorem hSz_le (m : HartM) (h : ¬ hSz m 1048576 < 0) : 0 ≤ hSz m 1048576 ∧ hSz m 1048576 ≤ 1048576 := by
  refine ⟨by omega, ?_⟩
  unfold hSz
  simp only
  split <;> omega
end Go.Proofs.YtojaakpnpdnbhaaGreatDoor.L

/- The law function over what is wrong with a lonely machine answers true; how one is read. -/
set_option linter.unusedVariables false
set_option linter.unusedSimpArgs false
set_option maxRecDepth 100000
namespace Go.Proofs.YtojaakpnpdnbhaaGreatDoor.L
open Go.RowKit Go.ChangeShapes Go.WideShapes Go.ChangeAt
structure SoloM.ok (x : SoloM) : Prop where
  hart : x.hart.ok
  pages : x.pages.length * 16 ≤ reachBytes ∧ ∀ p ∈ x.pages, ok64 p.to ∧ ok64 p.kinds
  mem : okInts x.mem
theorem SoloM.ok.small {x : SoloM} (h : x.ok) : x.small := by
  have e := reach_eq
  have a := h.pages.1
  have b := h.mem.1
  exact ⟨h.hart.small, by omega, by omega⟩
end Go.Proofs.YtojaakpnpdnbhaaGreatDoor.L

/- What the functions compute that read and write a machine's device page: contracts. -/
set_option linter.unusedVariables false
set_option linter.unusedSimpArgs false
set_option maxRecDepth 100000
namespace Go.Proofs.YtojaakpnpdnbhaaGreatDoor.L
open Go.RowKit
theorem drop_ints (l : List Int) (k i : Nat) : intsF l (k + i) = intsF (l.drop k) i := by
  show [D.v (.int .i64 (l.getD (k + i) 0))] = [D.v (.int .i64 ((l.drop k).getD i 0))]
  simp [List.getD, List.getElem?_drop]
def readV (m : HartM) (k : Int) : Int := if k = 1 then m.inp.getD 0 0 else if k = 2 then m.done else if k = 3 then m.csr.getD 9 0 else if k = 4 then pend m else if k = 6 then m.inp.length else 0
def readM (m : HartM) (k : Int) : HartM := if k = 1 then { m with inp := m.inp.drop 1 } else m
theorem readM_ne {m : HartM} {k : Int} (h : k ≠ 1) : readM m k = m := if_neg h
def writeV (k w : Int) : Int := if k = 5 then wrapW w else -1
def writeM (m : HartM) (k w : Int) : HartM := if k = 0 then (if m.out.length < 40 then { m with out := m.out ++ [wrapW w] } else m) else if k = 3 then setM m 9 w else if k = 4 then setM m 6 w else m
theorem wrapW_wrapW (w : Int) : wrapW (wrapW w) = wrapW w := by unfold wrapW; omega
theorem setM_wrapW (m : HartM) (k w : Int) : setM m k (wrapW w) = setM m k w := by unfold setM; rw [wrapW_wrapW]
theorem app_ints (l : List Int) (w : Int) (i : Nat) : upto l.length (intsF l) (fun i => ([[D.v (.int .i64 w)]] : List (List D)).getD i []) i = intsF (l ++ [w]) i ∨ l.length + 1 ≤ i := by
  rcases Nat.lt_or_ge i (l.length + 1) with h | h
  · refine .inl ?_
    unfold upto
    show _ = [D.v (.int .i64 ((l ++ [w]).getD i 0))]
    split
    · rename_i h; show [D.v (.int .i64 (l.getD i 0))] = _; simp [List.getD, List.getElem?_append, h]
    · have : i = l.length := by omega
      subst this
      simp [List.getD]
  · exact .inr h
theorem app_ints' (l : List Int) (w : Int) (i : Nat) (h : i < l.length + 1) : upto l.length (intsF l) (fun i => ([[D.v (.int .i64 w)]] : List (List D)).getD i []) i = intsF (l ++ [w]) i := (app_ints l w i).resolve_right (by omega)
theorem one_len (v : Int) (i : Nat) (hi : i < 1) : (([[D.v (.int .i64 v)]] : List (List D)).getD i []).length = 1 := by
  obtain rfl : i = 0 := by omega
  rfl
end Go.Proofs.YtojaakpnpdnbhaaGreatDoor.L

/- What the functions compute that tell the words of a page: contracts. -/
set_option linter.unusedVariables false
set_option linter.unusedSimpArgs false
set_option maxRecDepth 100000
namespace Go.Proofs.YtojaakpnpdnbhaaGreatDoor.L
open Go.RowKit
def pageW (m : List Int) (p : Int) : List Int := (m.drop (p * 8).toNat).take 8
theorem pageW_len (m : List Int) (p : Int) (hp : 0 ≤ p) (h : (p + 1) * 8 ≤ m.length) : (pageW m p).length = 8 := by
  unfold pageW
  rw [List.length_take, List.length_drop]
  omega
theorem pageW_D (m : List Int) (p : Int) (hp : 0 ≤ p) (h : (p + 1) * 8 ≤ m.length) : DLe (.l (((p + 1) * 8 - p * 8)).toNat (fun i => intsF m ((p * 8).toNat + i))) (ints (pageW m p)) := by
  refine DLe.l (by rw [pageW_len m p hp h]; omega) (fun i hi => ?_)
  show [D.v (.int .i64 (m.getD ((p * 8).toNat + i) 0))] = [D.v (.int .i64 ((pageW m p).getD i 0))]
  unfold pageW
  have hi8 : i < 8 := by omega
  simp [List.getD, List.getElem?_take, hi8, List.getElem?_drop]
def wordsL (m : List Int) (ps : List Int) : List Int := ps.flatMap (pageW m)
theorem wordsL_len (m : List Int) : ∀ (ps : List Int), (∀ p ∈ ps, 0 ≤ p ∧ (p + 1) * 8 ≤ m.length) → (wordsL m ps).length = 8 * ps.length
  | [], _ => rfl
  | p :: ps, h => by
    have h1 := h p (by simp)
    have h2 := wordsL_len m ps (fun q hq => h q (by simp [hq]))
    unfold wordsL at h2 ⊢
    rw [List.flatMap_cons, List.length_append, pageW_len m p h1.1 h1.2, h2]
    simp; omega
theorem upto_app (a b : List Int) (g : Nat → List D) (hg : ∀ j, j < b.length → g j = intsF b j) (i : Nat) (h : i < a.length + b.length) : upto a.length (intsF a) g i = intsF (a ++ b) i := by
  rw [← upto_ints]
  unfold upto
  split
  · rfl
  · exact hg _ (by omega)
end Go.Proofs.YtojaakpnpdnbhaaGreatDoor.L

/- What the functions compute that walk through pages: contracts. -/
set_option linter.unusedVariables false
set_option linter.unusedSimpArgs false
set_option maxRecDepth 100000
namespace Go.Proofs.YtojaakpnpdnbhaaGreatDoor.L
open Go.RowKit
/-! ## the first place in a list for which something holds -/
def idxG {α : Type} (p : α → Bool) (l : List α) (i : Nat) : Int := bif (l.drop i).any p then (((l.drop i).findIdx p + i : Nat) : Int) else -1
theorem getD_at {α : Type} {l : List α} {i : Nat} (d : α) (h : i < l.length) : l.getD i d = l[i] := by simp [List.getD, List.getElem?_eq_getElem h]
theorem drop_anyG {α : Type} (d : α) (l : List α) (p : α → Bool) (i : Nat) (h : i < l.length) : (l.drop i).any p = (p (l.getD i d) || (l.drop (i + 1)).any p) := by
  rw [List.drop_eq_getElem_cons h, List.any_cons, getD_at d h]
theorem idxG_hit {α : Type} (d : α) {l : List α} {p : α → Bool} {i : Nat} (h : i < l.length) (hp : p (l.getD i d) = true) : idxG p l i = i := by
  unfold idxG
  rw [drop_anyG d l p i h, hp, List.drop_eq_getElem_cons h]
  rw [getD_at d h] at hp
  rw [List.findIdx_cons, hp]
  simp
theorem idxG_miss {α : Type} (d : α) {l : List α} {p : α → Bool} {i : Nat} (h : i < l.length) (hp : p (l.getD i d) = false) : idxG p l i = idxG p l (i + 1) := by
  unfold idxG
  rw [drop_anyG d l p i h, hp, Bool.false_or, List.drop_eq_getElem_cons h]
  rw [getD_at d h] at hp
  cases (List.drop (i + 1) l).any p with
  | false => rfl
  | true =>
    simp only [cond_true, List.findIdx_cons, hp, cond_false]
    omega
theorem idxG_end {α : Type} {l : List α} {p : α → Bool} {i : Nat} (h : l.length ≤ i) : idxG p l i = -1 := by
  unfold idxG
  rw [List.drop_eq_nil_of_le h]; rfl
theorem idxG_any {α : Type} (l : List α) (p : α → Bool) : decide (idxG p l 0 ≥ 0) = l.any p := by
  unfold idxG
  rw [List.drop_zero]
  cases l.any p <;> simp
/-! ## where a place leads -/
abbrev andI (a b : Int) : Int := IntKind.i64.wrap (BitVec.ofInt 64 a &&& BitVec.ofInt 64 b).toNat
def pageAt (l : List PageM) (at_ : Int) : PageM := l.getD (IntKind.i64.wrap (Int.tdiv at_ 8)).toNat ⟨0, 0⟩
/-- -1: nowhere -/
def walkP (l : List PageM) (at_ kind : Int) : Int :=
  bif !inR at_ 0 63 then -1 else bif decide ((pageAt l at_).to < 0) || (andI (pageAt l at_).kinds kind == 0) then -1 else IntKind.i64.wrap (IntKind.i64.wrap ((pageAt l at_).to * 8) + Int.tmod at_ 8)
theorem div8 {a : Int} (h : 0 ≤ a) (h2 : a ≤ 63) : IntKind.i64.wrap (Int.tdiv a 8) = Int.tdiv a 8 ∧ 0 ≤ Int.tdiv a 8 ∧ Int.tdiv a 8 ≤ 7 := by
  have h3 : Int.tdiv a 8 = a / 8 := Int.tdiv_eq_ediv_of_nonneg h
  rw [h3]
  exact ⟨wrap_i64 _ (by omega) (by omega), by omega, by omega⟩
def kindC (k : Int) : Int := if k = 1 then 7 else if k = 2 then 8 else if k = 4 then 9 else 0
def kindOk (k : Int) : Bool := (k == 1) || ((k == 2) || (k == 4))
theorem kindC_ok (k : Int) : (kindC k == 0) = !kindOk k := by
  unfold kindC kindOk
  by_cases h1 : k = 1
  · subst h1; rfl
  by_cases h2 : k = 2
  · subst h2; rfl
  by_cases h4 : k = 4
  · subst h4; rfl
  simp [h1, h2, h4]
/-- where a place leads, with a code -/
def walkI (l : List PageM) (at_ kind : Int) : Int × Int := if walkP l at_ kind < 0 then (kindC kind, 0) else (0, walkP l at_ kind)
structure PgsOK (l : List PageM) (top : Int) : Prop where
  len : l.length = 8
  at_ : ∀ p ∈ l, -1 ≤ p.to ∧ p.to < top ∧ 0 ≤ p.kinds ∧ p.kinds ≤ 7
theorem PgsOK.get {l : List PageM} {top : Int} (h : PgsOK l top) {i : Nat} (hi : i < 8) : -1 ≤ (l.getD i ⟨0, 0⟩).to ∧ (l.getD i ⟨0, 0⟩).to < top := by
  rw [getD_at _ (by rw [h.len]; exact hi)]
  have := h.at_ _ (List.getElem_mem (by rw [h.len]; exact hi : i < l.length))
  exact ⟨this.1, this.2.1⟩
theorem walk_get {l : List PageM} {top at_ : Int} (h : PgsOK l top) (ht : top ≤ 24) (ha : inR at_ 0 63 = true) (h0 : ¬ (pageAt l at_).to < 0) :
    IntKind.i64.wrap (IntKind.i64.wrap ((pageAt l at_).to * 8) + Int.tmod at_ 8) = (pageAt l at_).to * 8 + Int.tmod at_ 8 ∧ 0 ≤ (pageAt l at_).to * 8 + Int.tmod at_ 8 ∧ (pageAt l at_).to * 8 + Int.tmod at_ 8 < top * 8 := by
  have h2 := inR_iff.1 ha
  obtain ⟨e1, e2, e3⟩ := div8 h2.1 h2.2
  have h3 : Int.tmod at_ 8 = at_ % 8 := Int.tmod_eq_emod_of_nonneg h2.1
  have h4 : (pageAt l at_).to < top := (h.get (by rw [e1]; omega)).2
  have e4 : IntKind.i64.wrap ((pageAt l at_).to * 8) = (pageAt l at_).to * 8 := wrap_i64 _ (by omega) (by omega)
  rw [e4, h3]
  exact ⟨wrap_i64 _ (by omega) (by omega), by omega, by omega⟩
end Go.Proofs.YtojaakpnpdnbhaaGreatDoor.L

/- Policies: what the law functions compute on them (to, size, equality): contracts. -/
set_option linter.unusedVariables false
set_option linter.unusedSimpArgs false
set_option maxRecDepth 100000
namespace Go.Proofs.YtojaakpnpdnbhaaGreatDoor.L
open Go.RowKit
structure LaneM where
  frm : Int
  to : Int
  page : Int
  af : Int
  at_ : Int
  deriving DecidableEq
abbrev laneD (p : LaneM) : List D := [dI p.frm, dI p.to, dI p.page, dI p.af, dI p.at_]
abbrev laneLV (p : LaneM) : LV := .agg [di p.frm, di p.to, di p.page, di p.af, di p.at_]
abbrev lanesF (l : List LaneM) (i : Nat) : List D := laneD (l.getD i ⟨0, 0, 0, 0, 0⟩)
abbrev lanes (l : List LaneM) : D := .l l.length (lanesF l)
abbrev oLanes (l : List LaneM) : RC := .own 55 5 l.length (lanesF l)
theorem c_laws_eqLane (p q : LaneM) : FnOK Tryz.prog 82 [laneLV p, laneLV q] (rb (decide (p = q))) := by
  refine fn_of lv82 Tryz.func82 rfl rfl (by kernel_rfl) rfl ?_
  repeat' (refine bsplit_intro (fun h => ?_) (fun h => ?_))
  all_goals refine ⟨⟨congrArg Value.bool ?_, trivial⟩, rfl⟩
  all_goals (obtain ⟨a0, a1, a2, a3, a4⟩ := p; obtain ⟨b0, b1, b2, b3, b4⟩ := q; simp_all)
theorem c_laws_eqLaneS (l m : List LaneM) (hl : l.length ≤ 9223372036854775807) : FnOK Tryz.prog 46 [.d (lanes l), .d (lanes m)] (rb (decide (l = m))) := by
  refine fn_of lv46 Tryz.func46 rfl rfl (by kernel_rfl) rfl ?_
  refine bsplit_intro (fun h => ?_) (fun h => ?_)
  · refine ⟨⟨congrArg Value.bool (?_ : false = _), trivial⟩, rfl⟩
    simp at h
    symm
    rw [decide_eq_false_iff_not]
    rintro rfl
    exact h rfl
  have hlen : l.length = m.length := by simp at h; omega
  refine ⟨{ i : Nat // i ≤ l.length ∧ decide (l.drop i = m.drop i) = decide (l = m) }, fun i => ⟨frL [(0, .d (lanes l)), (1, .d (lanes m)), (5, di i.1)], hpL [], 0, 0⟩, fun i => l.length - i.1, ⟨0, by simp⟩,
    le_of [] rfl rfl rfl rfl trivial (tellFr_d rfl (DLe.refl _) (tellFr_d rfl (DLe.refl _) (tellFr_v rfl rfl trivial))), ?_⟩
  rintro ⟨i, hi, hall⟩
  refine bsplit_intro (fun h => ?_) (fun h => ?_)
  · have h : i < l.length := by simp at h; exact h
    rw [drop_consG ⟨0, 0, 0, 0, 0⟩ l i h, drop_consG ⟨0, 0, 0, 0, 0⟩ m i (by omega)] at hall
    refine ask_intro ⟨by omega, by simp; omega, rfl⟩ ?_
    refine ask_intro ⟨by omega, by simp; omega, rfl⟩ ?_
    refine .inl ⟨_, _, rfl, c_laws_eqLane (l.getD i ⟨0, 0, 0, 0, 0⟩) (m.getD i ⟨0, 0, 0, 0, 0⟩), rfl, ?_⟩
    refine chk_intro (by kernel_rfl) ?_
    refine bsplit_intro (fun h2 => ?_) (fun h2 => ?_)
    · refine ⟨⟨congrArg Value.bool (?_ : false = _), trivial⟩, rfl⟩
      have h2 : ¬ l.getD i ⟨0, 0, 0, 0, 0⟩ = m.getD i ⟨0, 0, 0, 0, 0⟩ := by simpa only [Bool.not_eq_true', decide_eq_false_iff_not] using h2
      rw [← hall]
      symm
      rw [decide_eq_false_iff_not]
      intro e
      exact h2 (List.cons.inj e).1
    · have h2 : l.getD i ⟨0, 0, 0, 0, 0⟩ = m.getD i ⟨0, 0, 0, 0, 0⟩ := by simpa only [Bool.not_eq_false', decide_eq_true_eq] using h2
      rw [h2] at hall
      refine ⟨⟨i + 1, by omega, by rw [← hall]; simp⟩, le_of [] rfl rfl rfl rfl trivial (tellFr_d rfl (DLe.refl _) (tellFr_d rfl (DLe.refl _) (tellFr_v rfl (congrArg (Value.int .i64) (?_ : IntKind.i64.wrap ((i : Int) + 1) = ((i + 1 : Nat) : Int))) trivial))), by show l.length - (i + 1) < l.length - i; omega⟩
      exact wrap_i64 (i + 1) (by omega) (by omega)
  · refine ⟨⟨congrArg Value.bool (?_ : true = _), trivial⟩, rfl⟩
    simp at h
    rw [← hall, List.drop_eq_nil_of_le h, List.drop_eq_nil_of_le (by omega)]; simp
structure BellM where
  frm : Int
  to : Int
  deriving DecidableEq
abbrev bellD (p : BellM) : List D := [dI p.frm, dI p.to]
abbrev bellLV (p : BellM) : LV := .agg [di p.frm, di p.to]
abbrev bellsF (l : List BellM) (i : Nat) : List D := bellD (l.getD i ⟨0, 0⟩)
abbrev bells (l : List BellM) : D := .l l.length (bellsF l)
abbrev oBells (l : List BellM) : RC := .own 57 2 l.length (bellsF l)
theorem c_laws_eqBell (p q : BellM) : FnOK Tryz.prog 83 [bellLV p, bellLV q] (rb (decide (p = q))) := by
  refine fn_of lv83 Tryz.func83 rfl rfl (by kernel_rfl) rfl ?_
  repeat' (refine bsplit_intro (fun h => ?_) (fun h => ?_))
  all_goals refine ⟨⟨congrArg Value.bool ?_, trivial⟩, rfl⟩
  all_goals (obtain ⟨a0, a1⟩ := p; obtain ⟨b0, b1⟩ := q; simp_all)
theorem c_laws_eqBellS (l m : List BellM) (hl : l.length ≤ 9223372036854775807) : FnOK Tryz.prog 47 [.d (bells l), .d (bells m)] (rb (decide (l = m))) := by
  refine fn_of lv47 Tryz.func47 rfl rfl (by kernel_rfl) rfl ?_
  refine bsplit_intro (fun h => ?_) (fun h => ?_)
  · refine ⟨⟨congrArg Value.bool (?_ : false = _), trivial⟩, rfl⟩
    simp at h
    symm
    rw [decide_eq_false_iff_not]
    rintro rfl
    exact h rfl
  have hlen : l.length = m.length := by simp at h; omega
  refine ⟨{ i : Nat // i ≤ l.length ∧ decide (l.drop i = m.drop i) = decide (l = m) }, fun i => ⟨frL [(0, .d (bells l)), (1, .d (bells m)), (5, di i.1)], hpL [], 0, 0⟩, fun i => l.length - i.1, ⟨0, by simp⟩,
    le_of [] rfl rfl rfl rfl trivial (tellFr_d rfl (DLe.refl _) (tellFr_d rfl (DLe.refl _) (tellFr_v rfl rfl trivial))), ?_⟩
  rintro ⟨i, hi, hall⟩
  refine bsplit_intro (fun h => ?_) (fun h => ?_)
  · have h : i < l.length := by simp at h; exact h
    rw [drop_consG ⟨0, 0⟩ l i h, drop_consG ⟨0, 0⟩ m i (by omega)] at hall
    refine ask_intro ⟨by omega, by simp; omega, rfl⟩ ?_
    refine ask_intro ⟨by omega, by simp; omega, rfl⟩ ?_
    refine .inl ⟨_, _, rfl, c_laws_eqBell (l.getD i ⟨0, 0⟩) (m.getD i ⟨0, 0⟩), rfl, ?_⟩
    refine chk_intro (by kernel_rfl) ?_
    refine bsplit_intro (fun h2 => ?_) (fun h2 => ?_)
    · refine ⟨⟨congrArg Value.bool (?_ : false = _), trivial⟩, rfl⟩
      have h2 : ¬ l.getD i ⟨0, 0⟩ = m.getD i ⟨0, 0⟩ := by simpa only [Bool.not_eq_true', decide_eq_false_iff_not] using h2
      rw [← hall]
      symm
      rw [decide_eq_false_iff_not]
      intro e
      exact h2 (List.cons.inj e).1
    · have h2 : l.getD i ⟨0, 0⟩ = m.getD i ⟨0, 0⟩ := by simpa only [Bool.not_eq_false', decide_eq_true_eq] using h2
      rw [h2] at hall
      refine ⟨⟨i + 1, by omega, by rw [← hall]; simp⟩, le_of [] rfl rfl rfl rfl trivial (tellFr_d rfl (DLe.refl _) (tellFr_d rfl (DLe.refl _) (tellFr_v rfl (congrArg (Value.int .i64) (?_ : IntKind.i64.wrap ((i : Int) + 1) = ((i + 1 : Nat) : Int))) trivial))), by show l.length - (i + 1) < l.length - i; omega⟩
      exact wrap_i64 (i + 1) (by omega) (by omega)
  · refine ⟨⟨congrArg Value.bool (?_ : true = _), trivial⟩, rfl⟩
    simp at h
    rw [← hall, List.drop_eq_nil_of_le h, List.drop_eq_nil_of_le (by omega)]; simp
structure SlotM where
  guest : Int
  steps : Int
  deriving DecidableEq
abbrev slotD (p : SlotM) : List D := [dI p.guest, dI p.steps]
abbrev slotLV (p : SlotM) : LV := .agg [di p.guest, di p.steps]
abbrev slotsF (l : List SlotM) (i : Nat) : List D := slotD (l.getD i ⟨0, 0⟩)
abbrev slots (l : List SlotM) : D := .l l.length (slotsF l)
abbrev oSlots (l : List SlotM) : RC := .own 59 2 l.length (slotsF l)
theorem c_laws_eqSlot (p q : SlotM) : FnOK Tryz.prog 84 [slotLV p, slotLV q] (rb (decide (p = q))) := by
  refine fn_of lv84 Tryz.func84 rfl rfl (by kernel_rfl) rfl ?_
  repeat' (refine bsplit_intro (fun h => ?_) (fun h => ?_))
  all_goals refine ⟨⟨congrArg Value.bool ?_, trivial⟩, rfl⟩
  all_goals (obtain ⟨a0, a1⟩ := p; obtain ⟨b0, b1⟩ := q; simp_all)
theorem c_laws_eqSlotS (l m : List SlotM) (hl : l.length ≤ 9223372036854775807) : FnOK Tryz.prog 48 [.d (slots l), .d (slots m)] (rb (decide (l = m))) := by
  refine fn_of lv48 Tryz.func48 rfl rfl (by kernel_rfl) rfl ?_
  refine bsplit_intro (fun h => ?_) (fun h => ?_)
  · refine ⟨⟨congrArg Value.bool (?_ : false = _), trivial⟩, rfl⟩
    simp at h
    symm
    rw [decide_eq_false_iff_not]
    rintro rfl
    exact h rfl
  have hlen : l.length = m.length := by simp at h; omega
  refine ⟨{ i : Nat // i ≤ l.length ∧ decide (l.drop i = m.drop i) = decide (l = m) }, fun i => ⟨frL [(0, .d (slots l)), (1, .d (slots m)), (5, di i.1)], hpL [], 0, 0⟩, fun i => l.length - i.1, ⟨0, by simp⟩,
    le_of [] rfl rfl rfl rfl trivial (tellFr_d rfl (DLe.refl _) (tellFr_d rfl (DLe.refl _) (tellFr_v rfl rfl trivial))), ?_⟩
  rintro ⟨i, hi, hall⟩
  refine bsplit_intro (fun h => ?_) (fun h => ?_)
  · have h : i < l.length := by simp at h; exact h
    rw [drop_consG ⟨0, 0⟩ l i h, drop_consG ⟨0, 0⟩ m i (by omega)] at hall
    refine ask_intro ⟨by omega, by simp; omega, rfl⟩ ?_
    refine ask_intro ⟨by omega, by simp; omega, rfl⟩ ?_
    refine .inl ⟨_, _, rfl, c_laws_eqSlot (l.getD i ⟨0, 0⟩) (m.getD i ⟨0, 0⟩), rfl, ?_⟩
    refine chk_intro (by kernel_rfl) ?_
    refine bsplit_intro (fun h2 => ?_) (fun h2 => ?_)
    · refine ⟨⟨congrArg Value.bool (?_ : false = _), trivial⟩, rfl⟩
      have h2 : ¬ l.getD i ⟨0, 0⟩ = m.getD i ⟨0, 0⟩ := by simpa only [Bool.not_eq_true', decide_eq_false_iff_not] using h2
      rw [← hall]
      symm
      rw [decide_eq_false_iff_not]
      intro e
      exact h2 (List.cons.inj e).1
    · have h2 : l.getD i ⟨0, 0⟩ = m.getD i ⟨0, 0⟩ := by simpa only [Bool.not_eq_false', decide_eq_true_eq] using h2
      rw [h2] at hall
      refine ⟨⟨i + 1, by omega, by rw [← hall]; simp⟩, le_of [] rfl rfl rfl rfl trivial (tellFr_d rfl (DLe.refl _) (tellFr_d rfl (DLe.refl _) (tellFr_v rfl (congrArg (Value.int .i64) (?_ : IntKind.i64.wrap ((i : Int) + 1) = ((i + 1 : Nat) : Int))) trivial))), by show l.length - (i + 1) < l.length - i; omega⟩
      exact wrap_i64 (i + 1) (by omega) (by omega)
  · refine ⟨⟨congrArg Value.bool (?_ : true = _), trivial⟩, rfl⟩
    simp at h
    rw [← hall, List.drop_eq_nil_of_le h, List.drop_eq_nil_of_le (by omega)]; simp
end Go.Proofs.YtojaakpnpdnbhaaGreatDoor.L

/- Policies: read, measured, compared: contracts. -/
set_option linter.unusedVariables false
set_option linter.unusedSimpArgs false
set_option maxRecDepth 100000
namespace Go.Proofs.YtojaakpnpdnbhaaGreatDoor.L
open Go.RowKit
abbrev ownsF (l : List (List Int)) (i : Nat) : List D := [ints (l.getD i [])]
abbrev owns (l : List (List Int)) : D := .l l.length (ownsF l)
abbrev lenF (l : List (List Int)) (i : Nat) : Nat := (l.getD i []).length
abbrev inF (l : List (List Int)) (i j : Nat) : List D := intsF (l.getD i []) j
abbrev oOwns (l : List (List Int)) : RC := .ownn 44 2 1 l.length (lenF l) (inF l)
def sumN (l : List (List Int)) : Nat := (l.map List.length).sum
theorem sumN_take (l : List (List Int)) (i : Nat) (h : i < l.length) : sumN (l.take (i + 1)) = sumN (l.take i) + (l.getD i []).length := by
  unfold sumN
  rw [List.take_succ_eq_append_getElem h, List.map_append, List.sum_append, getD_at _ h]
  simp
theorem sumN_le (l : List (List Int)) (i : Nat) : sumN (l.take i) ≤ sumN l := by
  unfold sumN
  conv => rhs; rw [← List.take_append_drop i l, List.map_append, List.sum_append]
  omega
theorem sumN_get (l : List (List Int)) (i : Nat) (h : i < l.length) : (l.getD i []).length ≤ sumN l := by
  have := sumN_take l i h
  have := sumN_le l (i + 1)
  omega
def szO (l : List (List Int)) (q : Int) : Int := if q - (l.length + sumN l : Nat) < 0 then -1 else q - (l.length + sumN l : Nat)
theorem c_laws_eqInt64SS (l m : List (List Int)) (hl : l.length ≤ 9223372036854775807) (hs : ∀ i, i < l.length → (l.getD i []).length ≤ 9223372036854775807) : FnOK Tryz.prog 45 [.d (owns l), .d (owns m)] (rb (decide (l = m))) := by
  refine fn_of lv45 Tryz.func45 rfl rfl (by kernel_rfl) rfl ?_
  refine bsplit_intro (fun h => ?_) (fun h => ?_)
  · refine ⟨⟨congrArg Value.bool (?_ : false = _), trivial⟩, rfl⟩
    simp at h
    symm
    rw [decide_eq_false_iff_not]
    rintro rfl
    exact h rfl
  have hlen : l.length = m.length := by simp at h; omega
  refine ⟨{ i : Nat // i ≤ l.length ∧ decide (l.drop i = m.drop i) = decide (l = m) }, fun i => ⟨frL [(0, .d (owns l)), (1, .d (owns m)), (5, di i.1)], hpL [], 0, 0⟩, fun i => l.length - i.1, ⟨0, by simp⟩,
    le_of [] rfl rfl rfl rfl trivial (tellFr_d rfl (DLe.refl _) (tellFr_d rfl (DLe.refl _) (tellFr_v rfl rfl trivial))), ?_⟩
  rintro ⟨i, hi, hall⟩
  refine bsplit_intro (fun h => ?_) (fun h => ?_)
  · have h : i < l.length := by simp at h; exact h
    rw [drop_consG [] l i h, drop_consG [] m i (by omega)] at hall
    refine ask_intro ⟨by omega, by simp; omega, rfl⟩ ?_
    refine ask_intro ⟨by omega, by simp; omega, rfl⟩ ?_
    refine .inl ⟨_, _, rfl, c_laws_eqInt64S (l.getD i []) (m.getD i []) (hs i h), rfl, ?_⟩
    refine chk_intro (by kernel_rfl) ?_
    refine bsplit_intro (fun h2 => ?_) (fun h2 => ?_)
    · refine ⟨⟨congrArg Value.bool (?_ : false = _), trivial⟩, rfl⟩
      have h2 : ¬ l.getD i [] = m.getD i [] := by simpa only [Bool.not_eq_true', beq_eq_false_iff_ne] using h2
      rw [← hall]
      symm
      rw [decide_eq_false_iff_not]
      intro e
      exact h2 (List.cons.inj e).1
    · have h2 : l.getD i [] = m.getD i [] := by simpa only [Bool.not_eq_false', beq_iff_eq] using h2
      rw [h2] at hall
      refine ⟨⟨i + 1, by omega, by rw [← hall]; simp⟩, le_of [] rfl rfl rfl rfl trivial (tellFr_d rfl (DLe.refl _) (tellFr_d rfl (DLe.refl _) (tellFr_v rfl (congrArg (Value.int .i64) (?_ : IntKind.i64.wrap ((i : Int) + 1) = ((i + 1 : Nat) : Int))) trivial))), by show l.length - (i + 1) < l.length - i; omega⟩
      exact wrap_i64 (i + 1) (by omega) (by omega)
  · refine ⟨⟨congrArg Value.bool (?_ : true = _), trivial⟩, rfl⟩
    simp at h
    rw [← hall, List.drop_eq_nil_of_le h, List.drop_eq_nil_of_le (by omega)]; simp
/-! ## a policy -/
structure PolM where
  own : List (List Int)
  lns : List LaneM
  bls : List BellM
  pln : List SlotM
  deriving DecidableEq
abbrev polD (x : PolM) : List D := [owns x.own, lanes x.lns, bells x.bls, slots x.pln]
abbrev polLV (x : PolM) : LV := .agg [.d (owns x.own), .d (lanes x.lns), .d (bells x.bls), .d (slots x.pln)]
abbrev polR (x : PolM) : RV1 := .agg [oOwns x.own, oLanes x.lns, oBells x.bls, oSlots x.pln]
structure PolM.small (x : PolM) : Prop where
  own : x.own.length * 24 ≤ 140737488355328
  ins : ∀ i, i < x.own.length → (x.own.getD i []).length * 8 ≤ 140737488355328
  lns : x.lns.length * 40 ≤ 140737488355328
  bls : x.bls.length * 16 ≤ 140737488355328
  pln : x.pln.length * 16 ≤ 140737488355328
theorem c_laws_eqPolicy (x y : PolM) (hs : x.small) : FnOK Tryz.prog 22 [polLV x, polLV y] (rb (decide (x = y))) := by
  have h1 := hs.own
  have h2 := hs.ins
  have h3 := hs.lns
  have h4 := hs.bls
  have h5 := hs.pln
  refine fn_of lv22 Tryz.func22 rfl rfl (by kernel_rfl) rfl ?_
  refine .inl ⟨_, _, rfl, c_laws_eqInt64SS x.own y.own (by omega) (fun i hi => by have := h2 i hi; omega), rfl, ?_⟩
  refine bsplit_intro (fun h => ?_) (fun h => ?_)
  · refine ⟨⟨congrArg Value.bool ?_, trivial⟩, rfl⟩
    obtain ⟨a1, a2, a3, a4⟩ := x; obtain ⟨b1, b2, b3, b4⟩ := y; simp_all
  refine .inl ⟨_, _, rfl, c_laws_eqLaneS x.lns y.lns (by omega), rfl, ?_⟩
  refine bsplit_intro (fun h6 => ?_) (fun h6 => ?_)
  · refine ⟨⟨congrArg Value.bool ?_, trivial⟩, rfl⟩
    obtain ⟨a1, a2, a3, a4⟩ := x; obtain ⟨b1, b2, b3, b4⟩ := y; simp_all
  refine .inl ⟨_, _, rfl, c_laws_eqBellS x.bls y.bls (by omega), rfl, ?_⟩
  refine bsplit_intro (fun h7 => ?_) (fun h7 => ?_)
  · refine ⟨⟨congrArg Value.bool ?_, trivial⟩, rfl⟩
    obtain ⟨a1, a2, a3, a4⟩ := x; obtain ⟨b1, b2, b3, b4⟩ := y; simp_all
  refine .inl ⟨_, _, rfl, c_laws_eqSlotS x.pln y.pln (by omega), rfl, ?_⟩
  refine bsplit_intro (fun h8 => ?_) (fun h8 => ?_)
  all_goals refine ⟨⟨congrArg Value.bool ?_, trivial⟩, rfl⟩
  all_goals (obtain ⟨a1, a2, a3, a4⟩ := x; obtain ⟨b1, b2, b3, b4⟩ := y; simp_all)
/-- how many things a policy has -/
def PolM.size (x : PolM) : Nat := x.own.length + sumN x.own + x.lns.length + x.bls.length + x.pln.length
def szP (x : PolM) (q : Int) : Int := if q - (x.size : Int) < 0 then -1 else q - (x.size : Int)
end Go.Proofs.YtojaakpnpdnbhaaGreatDoor.L

/- What is wrong with a policy: the small functions: contracts. -/
set_option linter.unusedVariables false
set_option linter.unusedSimpArgs false
set_option maxRecDepth 100000
namespace Go.Proofs.YtojaakpnpdnbhaaGreatDoor.L
open Go.RowKit
theorem beqc (v : Int) : (fun a : Int => v == a) = fun a => a == v := funext fun a => by
  by_cases h : v = a
  · subst h; rfl
  · rw [beq_eq_false_iff_ne.2 h, beq_eq_false_iff_ne.2 (Ne.symm h)]
abbrev hasI (l : List Int) (v : Int) : Bool := l.any fun a => a == v
theorem wrap1 {i n : Nat} (h : i < n) (hn : n ≤ 4611686018427387904) : IntKind.i64.wrap ((i : Int) + 1) = ((i + 1 : Nat) : Int) := wrap_i64 (i + 1) (by omega) (by omega)
theorem c_spec_l1Has (l : List Int) (v : Int) (hl : l.length ≤ 4611686018427387904) : FnOK Tryz.prog 64 [.d (ints l), di v] (rb (hasI l v)) := by
  refine fn_of lv64 Tryz.func64 rfl rfl (by kernel_rfl) rfl ?_
  refine ⟨{ i : Nat // i ≤ l.length ∧ (l.drop i).any (fun a => a == v) = hasI l v }, fun i => ⟨frL [(0, .d (ints l)), (1, di v), (5, di i.1)], hpL [], 0, 0⟩, fun i => l.length - i.1, ⟨0, by simp⟩, le_of [] rfl rfl rfl rfl trivial (tellFr_d rfl (DLe.refl _) (tellFr_v rfl rfl (tellFr_v rfl rfl trivial))), ?_⟩
  rintro ⟨i, hi, hall⟩
  refine bsplit_intro (fun h => ?_) (fun h => ?_)
  · have h : i < l.length := by simp at h; exact h
    rw [drop_anyG 0 l _ i h] at hall
    refine ask_intro ⟨by omega, by simp; omega, rfl⟩ ?_
    refine bsplit_intro (fun h2 => ?_) (fun h2 => ?_)
    · rw [show (l.getD i 0 == v) = true from h2, Bool.true_or] at hall
      exact ⟨⟨congrArg Value.bool hall, trivial⟩, rfl⟩
    · rw [show (l.getD i 0 == v) = false from h2, Bool.false_or] at hall
      exact ⟨⟨i + 1, by omega, hall⟩, le_of [] rfl rfl rfl rfl trivial (tellFr_d rfl (DLe.refl _) (tellFr_v rfl rfl (tellFr_v rfl (congrArg (Value.int .i64) (wrap1 h hl)) trivial))), by show l.length - (i + 1) < l.length - i; omega⟩
  · simp at h
    rw [List.drop_eq_nil_of_le h] at hall
    exact ⟨⟨congrArg Value.bool hall, trivial⟩, rfl⟩
theorem c_slices_Index_int64 (l : List Int) (v : Int) (hl : l.length ≤ 4611686018427387904) : FnOK Tryz.prog 125 [.d (ints l), di v] (ri (idxG (fun a => v == a) l 0)) := by
  refine fn_of lv125 Tryz.func125 rfl rfl (by kernel_rfl) rfl ?_
  refine ⟨{ i : Nat // i ≤ l.length ∧ idxG (fun a => v == a) l i = idxG (fun a => v == a) l 0 }, fun i => ⟨frL [(0, .d (ints l)), (1, di v), (7, di l.length), (8, di i.1)], hpL [], 0, 0⟩, fun i => l.length - i.1, ⟨0, by omega, rfl⟩,
    le_of [] rfl rfl rfl rfl trivial (tellFr_d rfl (DLe.refl _) (tellFr_v rfl rfl (tellFr_v rfl rfl (tellFr_v rfl rfl trivial)))), ?_⟩
  rintro ⟨i, hi, hall⟩
  refine bsplit_intro (fun h => ?_) (fun h => ?_)
  · have h : i < l.length := by simp at h; exact h
    refine ask_intro ⟨by omega, by simp; omega, rfl⟩ ?_
    refine bsplit_intro (fun h2 => ?_) (fun h2 => ?_)
    · exact ⟨⟨congrArg (Value.int .i64) ((idxG_hit 0 h h2).symm.trans hall), trivial⟩, rfl⟩
    · exact ⟨⟨i + 1, by omega, (idxG_miss 0 h h2).symm.trans hall⟩, le_of [] rfl rfl rfl rfl trivial (tellFr_d rfl (DLe.refl _) (tellFr_v rfl rfl (tellFr_v rfl rfl (tellFr_v rfl (congrArg (Value.int .i64) (wrap1 h hl)) trivial)))), by show l.length - (i + 1) < l.length - i; omega⟩
  · simp at h
    exact ⟨⟨congrArg (Value.int .i64) ((idxG_end h).symm.trans hall), trivial⟩, rfl⟩
theorem c_slices_Contains_int64 (l : List Int) (v : Int) (hl : l.length ≤ 4611686018427387904) : FnOK Tryz.prog 105 [.d (ints l), di v] (rb (hasI l v)) := by
  refine fn_of lv105 Tryz.func105 rfl rfl (by kernel_rfl) rfl ?_
  refine .inl ⟨_, _, rfl, c_slices_Index_int64 l v hl, rfl, ?_⟩
  exact ⟨⟨congrArg Value.bool ((idxG_any l _).trans (congrArg l.any (beqc v))), trivial⟩, rfl⟩
theorem c_slices_Index_Bell (l : List BellM) (b : BellM) (hl : l.length ≤ 4611686018427387904) : FnOK Tryz.prog 107 [.d (bells l), bellLV b] (ri (idxG (fun a => [b.frm, b.to] == [a.frm, a.to]) l 0)) := by
  refine fn_of lv107 Tryz.func107 rfl rfl (by kernel_rfl) rfl ?_
  refine ⟨{ i : Nat // i ≤ l.length ∧ idxG (fun a : BellM => [b.frm, b.to] == [a.frm, a.to]) l i = idxG (fun a => [b.frm, b.to] == [a.frm, a.to]) l 0 }, fun i => ⟨frL [(0, .d (bells l)), (3, .ptr 64 0), (7, di l.length), (8, di i.1)], hpL [(64, .box 57 [di b.frm, di b.to])], 96, 0⟩, fun i => l.length - i.1, ⟨0, by omega, rfl⟩,
    le_of [(64, 0)] rfl rfl rfl rfl (tellHp_box rfl rfl ⟨rfl, rfl, trivial⟩ tellHp_nil) (tellFr_d rfl (DLe.refl _) (tellFr_ptr rfl rfl (tellFr_v rfl rfl (tellFr_v rfl rfl trivial)))), ?_⟩
  rintro ⟨i, hi, hall⟩
  refine bsplit_intro (fun h => ?_) (fun h => ?_)
  · have h : i < l.length := by simp at h; exact h
    refine ask_intro ⟨by omega, by simp; omega, rfl⟩ ?_
    refine chk_intro (by kernel_rfl) ?_
    refine bsplit_intro (fun h2 => ?_) (fun h2 => ?_)
    · exact ⟨⟨congrArg (Value.int .i64) ((idxG_hit ⟨0, 0⟩ h h2).symm.trans hall), trivial⟩, rfl⟩
    · exact ⟨⟨i + 1, by omega, (idxG_miss ⟨0, 0⟩ h h2).symm.trans hall⟩, le_of [(64, 64)] rfl rfl rfl rfl (tellHp_box rfl rfl ⟨rfl, rfl, trivial⟩ tellHp_nil) (tellFr_d rfl (DLe.refl _) (tellFr_ptr rfl rfl (tellFr_v rfl rfl (tellFr_v rfl (congrArg (Value.int .i64) (wrap1 h hl)) trivial)))), by show l.length - (i + 1) < l.length - i; omega⟩
  · simp at h
    exact ⟨⟨congrArg (Value.int .i64) ((idxG_end h).symm.trans hall), trivial⟩, rfl⟩
theorem bellBeq (b : BellM) : (fun a : BellM => [b.frm, b.to] == [a.frm, a.to]) = fun a => a == b := funext fun a => by
  by_cases h : a = b
  · subst h; simp
  · rw [beq_eq_false_iff_ne.2 h]
    refine beq_eq_false_iff_ne.2 (fun e => h ?_)
    obtain ⟨a1, a2⟩ := a; obtain ⟨b1, b2⟩ := b
    simp only [List.cons.injEq, and_true] at e
    rw [e.1, e.2]
theorem c_slices_Contains_Bell (l : List BellM) (b : BellM) (hl : l.length ≤ 4611686018427387904) : FnOK Tryz.prog 79 [.d (bells l), bellLV b] (rb (l.any fun a => a == b)) := by
  refine fn_of lv79 Tryz.func79 rfl rfl (by kernel_rfl) rfl ?_
  refine .inl ⟨_, _, rfl, c_slices_Index_Bell l b hl, rfl, ?_⟩
  exact ⟨⟨congrArg Value.bool ((idxG_any l _).trans (congrArg l.any (bellBeq b))), trivial⟩, rfl⟩
theorem c_slices_IndexFunc_Lane (g : Nat) (m : LaneM) (p : LaneM → Bool) (hg : ∀ x, FnOK Tryz.prog g [laneLV x, .dptr (laneD m)] (rb (p x))) (l : List LaneM) (hl : l.length ≤ 4611686018427387904) : FnOK Tryz.prog 106 [.d (lanes l), .fn g [.dptr (laneD m)]] (ri (idxG p l 0)) := by
  refine fn_of lv106 Tryz.func106 rfl rfl (by kernel_rfl) rfl ?_
  refine ⟨{ i : Nat // i ≤ l.length ∧ idxG p l i = idxG p l 0 }, fun i => ⟨frL [(0, .d (lanes l)), (1, .fn g [.dptr (laneD m)]), (7, di l.length), (8, di i.1)], hpL [], 0, 0⟩, fun i => l.length - i.1, ⟨0, by omega, rfl⟩,
    le_of [] rfl rfl rfl rfl trivial (tellFr_d rfl (DLe.refl _) (tellFr_fn rfl ⟨⟨DLe.refl _, DLe.refl _, DLe.refl _, DLe.refl _, DLe.refl _, trivial⟩, trivial⟩ (tellFr_v rfl rfl (tellFr_v rfl rfl trivial)))), ?_⟩
  rintro ⟨i, hi, hall⟩
  refine bsplit_intro (fun h => ?_) (fun h => ?_)
  · have h : i < l.length := by simp at h; exact h
    refine ask_intro ⟨by omega, by simp; omega, rfl⟩ ?_
    refine .inl ⟨_, _, rfl, hg (l.getD i ⟨0, 0, 0, 0, 0⟩), rfl, ?_⟩
    refine bsplit_intro (fun h2 => ?_) (fun h2 => ?_)
    · exact ⟨⟨congrArg (Value.int .i64) ((idxG_hit ⟨0, 0, 0, 0, 0⟩ h h2).symm.trans hall), trivial⟩, rfl⟩
    · exact ⟨⟨i + 1, by omega, (idxG_miss ⟨0, 0, 0, 0, 0⟩ h h2).symm.trans hall⟩, le_of [] rfl rfl rfl rfl trivial (tellFr_d rfl (DLe.refl _) (tellFr_fn rfl ⟨⟨DLe.refl _, DLe.refl _, DLe.refl _, DLe.refl _, DLe.refl _, trivial⟩, trivial⟩ (tellFr_v rfl rfl (tellFr_v rfl (congrArg (Value.int .i64) (wrap1 h hl)) trivial)))), by show l.length - (i + 1) < l.length - i; omega⟩
  · simp at h
    exact ⟨⟨congrArg (Value.int .i64) ((idxG_end h).symm.trans hall), trivial⟩, rfl⟩
theorem c_slices_IndexFunc_ints (g : Nat) (v : Int) (p : List Int → Bool) (l : List (List Int)) (hg : ∀ i, i < l.length → FnOK Tryz.prog g [.d (ints (l.getD i [])), .dptr [dI v]] (rb (p (l.getD i [])))) (hl : l.length ≤ 4611686018427387904) : FnOK Tryz.prog 103 [.d (owns l), .fn g [.dptr [dI v]]] (ri (idxG p l 0)) := by
  refine fn_of lv103 Tryz.func103 rfl rfl (by kernel_rfl) rfl ?_
  refine ⟨{ i : Nat // i ≤ l.length ∧ idxG p l i = idxG p l 0 }, fun i => ⟨frL [(0, .d (owns l)), (1, .fn g [.dptr [dI v]]), (7, di l.length), (8, di i.1)], hpL [], 0, 0⟩, fun i => l.length - i.1, ⟨0, by omega, rfl⟩,
    le_of [] rfl rfl rfl rfl trivial (tellFr_d rfl (DLe.refl _) (tellFr_fn rfl ⟨⟨DLe.refl _, trivial⟩, trivial⟩ (tellFr_v rfl rfl (tellFr_v rfl rfl trivial)))), ?_⟩
  rintro ⟨i, hi, hall⟩
  refine bsplit_intro (fun h => ?_) (fun h => ?_)
  · have h : i < l.length := by simp at h; exact h
    refine ask_intro ⟨by omega, by simp; omega, rfl⟩ ?_
    refine .inl ⟨_, _, rfl, hg i h, rfl, ?_⟩
    refine bsplit_intro (fun h2 => ?_) (fun h2 => ?_)
    · exact ⟨⟨congrArg (Value.int .i64) ((idxG_hit [] h h2).symm.trans hall), trivial⟩, rfl⟩
    · exact ⟨⟨i + 1, by omega, (idxG_miss [] h h2).symm.trans hall⟩, le_of [] rfl rfl rfl rfl trivial (tellFr_d rfl (DLe.refl _) (tellFr_fn rfl ⟨⟨DLe.refl _, trivial⟩, trivial⟩ (tellFr_v rfl rfl (tellFr_v rfl (congrArg (Value.int .i64) (wrap1 h hl)) trivial)))), by show l.length - (i + 1) < l.length - i; omega⟩
  · simp at h
    exact ⟨⟨congrArg (Value.int .i64) ((idxG_end h).symm.trans hall), trivial⟩, rfl⟩
/-! ## guests, owners, ends -/
abbrev polP (x : PolM) : LV := .dptr (polD x)
def guestB (n : Nat) (g : Int) : Bool := inR g 0 ((n : Int) - 1)
theorem wrapm {n : Nat} (hn : n ≤ 4611686018427387904) : IntKind.i64.wrap ((n : Int) - 1) = (n : Int) - 1 := wrap_i64 _ (by omega) (by omega)
theorem c_spec_l6Guest (x : PolM) (hs : x.small) (g : Int) : FnOK Tryz.prog 68 [polP x, di g] (rb (guestB x.own.length g)) := by
  have h := hs.own
  generalize hv : guestB x.own.length g = v
  unfold guestB at hv
  rw [← wrapm (by omega)] at hv
  refine fn_of lv68 Tryz.func68 rfl rfl (by kernel_rfl) rfl ?_
  refine .inl ⟨_, _, rfl, c_spec_l1In g 0 _, rfl, ?_⟩
  exact ⟨⟨congrArg Value.bool hv, trivial⟩, rfl⟩
theorem c_impl_isGuest (x : PolM) (hs : x.small) (g : Int) : FnOK Tryz.prog 80 [polP x, di g] (rb (guestB x.own.length g)) := by
  have h := hs.own
  generalize hv : guestB x.own.length g = v
  unfold guestB at hv
  rw [← wrapm (by omega)] at hv
  refine fn_of lv80 Tryz.func80 rfl rfl (by kernel_rfl) rfl ?_
  refine .inl ⟨_, _, rfl, c_impl_within g 0 _, rfl, ?_⟩
  exact ⟨⟨congrArg Value.bool hv, trivial⟩, rfl⟩
def ownerP (l : List (List Int)) (v : Int) : Int := idxG (fun r => hasI r v) l 0
theorem c_impl_owner_1 (r : List Int) (v : Int) (hr : r.length ≤ 4611686018427387904) : FnOK Tryz.prog 104 [.d (ints r), .dptr [dI v]] (rb (hasI r v)) := by
  refine fn_of lv104 Tryz.func104 rfl rfl (by kernel_rfl) rfl ?_
  refine .inl ⟨_, _, rfl, c_slices_Contains_int64 r v hr, rfl, ?_⟩
  exact ⟨⟨rfl, trivial⟩, rfl⟩
theorem c_impl_owner (x : PolM) (hs : x.small) (v : Int) : FnOK Tryz.prog 75 [polP x, di v] (ri (ownerP x.own v)) := by
  have h := hs.own
  have h2 := hs.ins
  refine fn_of lv75 Tryz.func75 rfl rfl (by kernel_rfl) rfl ?_
  refine .inl ⟨_, _, rfl, c_slices_IndexFunc_ints 104 v (fun r => hasI r v) x.own (fun i hi => c_impl_owner_1 _ v (by have := h2 i hi; omega)) (by omega), rfl, ?_⟩
  exact ⟨⟨rfl, trivial⟩, rfl⟩
theorem c_spec_l6Owner (x : PolM) (hs : x.small) (v : Int) : FnOK Tryz.prog 66 [polP x, di v] (ri (ownerP x.own v)) := by
  have hl := hs.own
  have h0 := hs.ins
  refine fn_of lv66 Tryz.func66 rfl rfl (by kernel_rfl) rfl ?_
  refine ⟨{ i : Nat // i ≤ x.own.length ∧ idxG (fun r => hasI r v) x.own i = ownerP x.own v }, fun i => ⟨frL [(0, polP x), (1, di v), (5, di i.1)], hpL [], 0, 0⟩, fun i => x.own.length - i.1, ⟨0, by omega, rfl⟩,
    le_of [] rfl rfl rfl rfl trivial (tellFr_x rfl ⟨DLe.refl _, DLe.refl _, DLe.refl _, DLe.refl _, trivial⟩ (tellFr_v rfl rfl (tellFr_v rfl rfl trivial))), ?_⟩
  rintro ⟨i, hi, hall⟩
  refine bsplit_intro (fun h => ?_) (fun h => ?_)
  · have h : i < x.own.length := by simp at h; exact h
    refine ask_intro ⟨by omega, by simp; omega, rfl⟩ ?_
    refine .inl ⟨_, _, rfl, c_spec_l1Has (x.own.getD i []) v (by have := h0 i h; omega), rfl, ?_⟩
    refine bsplit_intro (fun h2 => ?_) (fun h2 => ?_)
    · exact ⟨⟨congrArg (Value.int .i64) ((idxG_hit [] h h2).symm.trans hall), trivial⟩, rfl⟩
    · exact ⟨⟨i + 1, by omega, (idxG_miss [] h h2).symm.trans hall⟩, le_of [] rfl rfl rfl rfl trivial (tellFr_x rfl ⟨DLe.refl _, DLe.refl _, DLe.refl _, DLe.refl _, trivial⟩ (tellFr_v rfl rfl (tellFr_v rfl (congrArg (Value.int .i64) (wrap1 h (by omega))) trivial))), by show x.own.length - (i + 1) < x.own.length - i; omega⟩
  · simp at h
    exact ⟨⟨congrArg (Value.int .i64) ((idxG_end h).symm.trans hall), trivial⟩, rfl⟩
def endsF (n : Nat) (a b : Int) : Int := bif !guestB n a || !guestB n b then 4 else bif a == b then 1 else 0
theorem c_spec_l6Ends (x : PolM) (hs : x.small) (a b : Int) : FnOK Tryz.prog 65 [polP x, di a, di b] (ri (endsF x.own.length a b)) := by
  have c1 := c_spec_l6Guest x hs a
  have c2 := c_spec_l6Guest x hs b
  generalize hv : endsF x.own.length a b = v
  unfold endsF at hv
  refine fn_of lv65 Tryz.func65 rfl rfl (by kernel_rfl) rfl ?_
  refine .inl ⟨_, _, rfl, c1, rfl, ?_⟩
  repeat' (first | refine bsplit_true ?_ | refine bsplit_false ?_ | refine .inl ⟨_, _, rfl, c2, rfl, ?_⟩ | refine bsplit_intro (fun h => ?_) (fun h => ?_))
  all_goals refine ⟨⟨congrArg (Value.int .i64) ?_, trivial⟩, rfl⟩
  all_goals simp_all
theorem c_impl_linkFault (x : PolM) (hs : x.small) (a b : Int) : FnOK Tryz.prog 74 [polP x, di a, di b] (ri (endsF x.own.length a b)) := by
  have c1 := c_impl_isGuest x hs a
  have c2 := c_impl_isGuest x hs b
  generalize hv : endsF x.own.length a b = v
  unfold endsF at hv
  refine fn_of lv74 Tryz.func74 rfl rfl (by kernel_rfl) rfl ?_
  refine .inl ⟨_, _, rfl, c1, rfl, ?_⟩
  repeat' (first | refine bsplit_true ?_ | refine bsplit_false ?_ | refine .inl ⟨_, _, rfl, c2, rfl, ?_⟩ | refine bsplit_intro (fun h => ?_) (fun h => ?_))
  all_goals refine ⟨⟨congrArg (Value.int .i64) ?_, trivial⟩, rfl⟩
  all_goals simp_all
end Go.Proofs.YtojaakpnpdnbhaaGreatDoor.L

/- Texts: the library's functions, as the kit's shelf has them, in the symbolic logic. -/
set_option linter.unusedVariables false
set_option linter.unusedSimpArgs false
set_option maxRecDepth 100000
namespace Go.Proofs.YtojaakpnpdnbhaaGreatDoor.L
open Go.RowKit
/-- a text of these bytes -/
def tx (l : List UInt8) : ByteArray := ⟨l.toArray⟩
theorem tx_app (a b : List UInt8) : tx a ++ tx b = tx (a ++ b) := by
  apply ByteArray.ext
  simp [tx]
theorem tx_size (a : List UInt8) : (tx a).size = a.length := by
  show (tx a).data.size = _
  simp [tx]
theorem tx_list (a : List UInt8) : (tx a).data.toList = a := by simp [tx]
abbrev dT (l : List UInt8) : LV := .d (.v (.string (tx l)))
abbrev rT (l : List UInt8) : RV := .r (.one (.v (.string (tx l))))
/-- a function that answers a plain value and turns nothing of what was there -/
theorem FnOK.of_val {P : Program} {g : FuncId} {fn : Func} (hf : P.funcs[g]? = Option.some fn) (hb : fn.body.isSome = true) (hn : (fn.name == "runtime.NumGoroutine") = false) {lvs : List LV} {x : Value}
    (h : ∀ (W : World) (F : Nat → Prop) (vs : List Value), (∀ b, F b → b < W.heap.size) → GlOK F W → vs.length = lvs.length → (∀ j, j < lvs.length → VR (fun _ => none) W F (lvs.getD j .bad) (vs.getD j undef)) → Calls P g vs.toArray W fun e W' => e = .returned x ∧ Below W.heap.size W W') : FnOK P g lvs (.r (.one (.v x))) :=
  ⟨⟨fn, hf, hb, hn⟩, fun W F vs hG hl hv => (h W F vs hG.1 hG.2 hl hv).mono fun e W' ⟨he, hB⟩ => ⟨x, he, hB, ⟨[x], fun _ => False, rfl, rfl, fun b hb => hb.elim, fun j c hc => by
    match j, hc with
    | 0, hc => cases hc; exact rfl, fun j c e g hc ho => by
    match j, hc with
    | 0, hc => cases hc; simp [entOf] at ho, fun i j c d e e' g hc hd ho => by
    match i, hc with
    | 0, hc => cases hc; simp [entOf] at ho⟩⟩⟩
theorem below_grow (w : World) (k : Nat) (os : Array Obj) : Below w.heap.size w (Sort.grow (w.drewN k) os) := ⟨rfl, rfl, rfl, by simp [Sort.grow, World.drewN], fun i hi => by
  show (w.heap ++ os)[i]? = _
  rw [Array.getElem?_append_left hi]⟩
theorem vs2 {vs : List Value} (h : vs.length = 2) : ∃ a b, vs = [a, b] := by
  match vs, h with
  | [a, b], _ => exact ⟨a, b, rfl⟩
theorem VR.atomv {ρ : Nat → Option Value} {w : World} {I : Nat → Prop} {x v : Value} (h : VR ρ w I (.d (.v x)) v) : v = x := VR.atom h
theorem pow10_mem : (3, IntKind.u64, Lib.pow10Tab) ∈ gtab := by
  unfold gtab
  decide
theorem c_strconv_FormatInt (n : Int) (h0 : -9223372036854775808 ≤ n) (h1 : n ≤ 9223372036854775807) : FnOK Tryz.prog 112 [di n, di 10] (rT (Lib.itoa n)) :=
  FnOK.of_val Tryz.func112 (by kernel_rfl) (by kernel_rfl) fun W F vs hF hG hl hv => by
    obtain ⟨a, b, rfl⟩ := vs2 hl
    have ha : a = .int .i64 n := VR.atomv (hv 0 (by simp))
    have hb : b = .int .i64 10 := VR.atomv (hv 1 (by simp))
    subst ha hb
    have htab : Lib.TabIs Tryz.prog W "internal/strconv.uint64pow10" .u64 Lib.pow10Tab := tab_of_gl hG (by kernel_rfl) pow10_mem
    refine (Tryz.strconv_FormatInt_10 n h0 h1 W htab).mono fun e W' ⟨he, k, os, hw⟩ => ⟨he, ?_⟩
    subst hw
    exact below_grow W k os
/-- rows of texts -/
abbrev txsF (l : List (List UInt8)) (i : Nat) : List D := [.v (.string (tx (l.getD i [])))]
abbrev txs (l : List (List UInt8)) : D := .l l.length (txsF l)
theorem c_strings_Join (l : List (List UInt8)) (sep : List UInt8) (hl : l.length ≤ 140737488355328) (hb : (Lib.join l sep).length ≤ 140737488355328) : FnOK Tryz.prog 88 [.d (txs l), dT sep] (rT (Lib.join l sep)) :=
  FnOK.of_val Tryz.func88 (by kernel_rfl) (by kernel_rfl) fun W F vs hF hG hlen hv => by
    obtain ⟨a, b, rfl⟩ := vs2 hlen
    have hb' : b = .string (tx sep) := VR.atomv (hv 1 (by simp))
    subst hb'
    have ha : Rd W F (.l l.length (txsF l)) a := VR.data (hv 0 (by simp))
    generalize hfn : (txsF l) = f at ha
    generalize hn : l.length = n at ha
    cases ha with
    | nil f A c =>
      have : l = [] := List.length_eq_zero_iff.1 hn
      subst this
      refine (Tryz.strings_Join_none A c (tx sep) W).mono fun e W' ⟨he, hw⟩ => ⟨he, ?_⟩
      subst hw
      exact Below.refl _ _
    | l n f ad c sz vs h0 hc hI hs hz hll hvv h1 hr =>
      subst hfn hn
      obtain ⟨bk, o, sp⟩ := ad
      simp only at hs
      subst hs
      have hsz : sz = 1 := by rw [← hll 0 h0]; rfl
      subst hsz
      have hcell : ∀ (j : Nat) x, (l.map tx)[j]? = some x → W.cell? ⟨bk, o + j, none⟩ = some (.string x) := fun j x hx => by
        have hj : j < l.length := by
          rcases Nat.lt_or_ge j l.length with h | h
          · exact h
          · rw [List.getElem?_eq_none (by simpa using h)] at hx; cases hx
        have h2 := hvv j 0 hj (by omega)
        have h3 := hr j 0 hj (by omega)
        have h4 : vs j 0 = .string (tx (l.getD j [])) := by
          have h5 : Rd W F (.v (.string (tx (l.getD j [])))) (vs j 0) := h3
          generalize vs j 0 = z at h5
          cases h5
          rfl
        rw [h4, add_mk, Nat.mul_one, Nat.add_zero] at h2
        rw [h2]
        simp only [List.getElem?_map, List.getElem?_eq_getElem hj, Option.map_some, Option.some.injEq] at hx
        rw [← hx, getD_at [] hj]
      have hmm : (l.map tx).map (·.data.toList) = l := by
        rw [List.map_map]
        conv => rhs; rw [← List.map_id l]
        refine List.map_congr_left fun x _ => ?_
        simp [tx_list]
      have hJ := Tryz.strings_Join bk o c (l.map tx) (tx sep) W hcell (hF _ hI) (by simpa using hl) (by simpa using hc) (by rw [hmm, tx_list]; exact hb)
      rw [hmm, tx_list, List.length_map] at hJ
      exact hJ
end Go.Proofs.YtojaakpnpdnbhaaGreatDoor.L

/- Numbers as texts, lines: contracts. -/
set_option linter.unusedVariables false
set_option linter.unusedSimpArgs false
set_option maxRecDepth 100000
namespace Go.Proofs.YtojaakpnpdnbhaaGreatDoor.L
open Go.RowKit
theorem dd_eq (u : Nat) : Lib.decDigits u = if u < 10 then [UInt8.ofNat (48 + u)] else Lib.decDigits (u / 10) ++ [UInt8.ofNat (48 + u % 10)] := by
  rw [Lib.decDigits]
  split <;> rfl
theorem dd_len (u : Nat) : 1 ≤ (Lib.decDigits u).length ∧ (Lib.decDigits u).length ≤ u + 1 := by
  induction u using Nat.strongRecOn with
  | ind u ih =>
    rw [dd_eq]
    split
    · simp
    · have := ih (u / 10) (by omega)
      simp only [List.length_append, List.length_cons, List.length_nil]
      omega
theorem itoa_pos {n : Int} (h : 0 ≤ n) : Lib.itoa n = Lib.decDigits n.toNat := by
  unfold Lib.itoa
  rw [if_neg (by omega)]
theorem c_impl_decimal (n : Int) (h0 : 0 ≤ n) (h1 : n ≤ 9223372036854775807) : FnOK Tryz.prog 89 [di n] (rT (Lib.decDigits n.toNat)) := by
  have c1 := c_strconv_FormatInt n (by omega) h1
  rw [itoa_pos h0] at c1
  refine fn_of lv89 Tryz.func89 rfl rfl (by kernel_rfl) rfl ?_
  refine .inl ⟨_, _, rfl, c1, rfl, ?_⟩
  exact ⟨⟨rfl, trivial⟩, rfl⟩
theorem c_impl_line (l : List (List UInt8)) (hl : l.length ≤ 140737488355328) (hb : (Lib.join l [32]).length ≤ 140737488355328) : FnOK Tryz.prog 61 [.d (txs l)] (rT (Lib.join l [32] ++ [10])) := by
  have c1 := c_strings_Join l [32] hl hb
  have e := tx_app (Lib.join l [32]) [10]
  have hz : (((tx (Lib.join l [32])).size + (tx [10]).size : Nat) : Int) ≤ 9223372036854775807 := by
    rw [tx_size, tx_size]
    simp only [List.length_cons, List.length_nil]
    omega
  refine fn_of lv61 Tryz.func61 rfl rfl (by kernel_rfl) rfl ?_
  refine .inl ⟨_, _, rfl, c1, rfl, ?_⟩
  refine ask_intro hz ?_
  exact ⟨⟨congrArg Value.string e, trivial⟩, rfl⟩
theorem strT : StrT Tryz.prog 34 9 := ⟨5, by kernel_rfl, by kernel_rfl, by kernel_rfl⟩
theorem bytes1 (n : Int) : bytesS ((List.range 1).map fun i => byteN ((fun i => ([[D.v (.int .u8 n)]] : List (List D)).getD i []) i)) = tx [UInt8.ofNat n.toNat] := by
  show ByteArray.push ByteArray.empty (UInt8.ofNat n.toNat) = tx [UInt8.ofNat n.toNat]
  rfl
theorem wrap_u8i (n : Int) (h1 : 0 ≤ n) (h2 : n < 256) : IntKind.u8.wrap n = n := by rw [IntKind.wrap_u8]; omega
set_option maxHeartbeats 800000 in
theorem c_spec_l2Digits (u : Nat) : ∀ n : Int, n = (u : Int) → n ≤ 9223372036854775000 → FnOK Tryz.prog 108 [di n] (rT (Lib.decDigits u)) := by
  induction u using Nat.strongRecOn with
  | ind u ih =>
    intro n hn hb
    have hdl := dd_len u
    obtain ⟨r, hr⟩ : ∃ r, r = Lib.decDigits u := ⟨_, rfl⟩
    rw [← hr]
    rw [dd_eq] at hr
    by_cases h : u < 10
    · rw [if_pos h] at hr
      have e1 : IntKind.u8.wrap (IntKind.i64.wrap (48 + n)) = 48 + n := by rw [wrap_i64 _ (by omega) (by omega), wrap_u8i _ (by omega) (by omega)]
      have e2 : (48 + n).toNat = 48 + u := by omega
      have e3 : bytesS ((List.range 1).map fun i => byteN ((fun i => ([[D.v (.int .u8 (IntKind.u8.wrap (IntKind.i64.wrap (48 + n))))]] : List (List D)).getD i []) i)) = tx r := by rw [bytes1, e1, e2, hr]
      refine fn_of lv108 Tryz.func108 rfl rfl (by kernel_rfl) rfl ?_
      refine bsplit_of_true (decide_eq_true (by omega)) ?_
      refine ask_intro ⟨strT, by omega, fun i hi => ?_⟩ ?_
      · obtain rfl : i = 0 := by omega
        rfl
      exact ⟨⟨congrArg Value.string e3, trivial⟩, rfl⟩
    · rw [if_neg h] at hr
      have d1 : IntKind.i64.wrap (n.tdiv 10) = ((u / 10 : Nat) : Int) := by
        rw [Int.tdiv_eq_ediv_of_nonneg (by omega), wrap_i64 _ (by omega) (by omega)]; omega
      have d2 : n.tmod 10 = ((u % 10 : Nat) : Int) := by
        rw [Int.tmod_eq_emod_of_nonneg (by omega)]; omega
      have e1 : IntKind.u8.wrap (IntKind.i64.wrap (48 + n.tmod 10)) = 48 + ((u % 10 : Nat) : Int) := by rw [d2, wrap_i64 _ (by omega) (by omega), wrap_u8i _ (by omega) (by omega)]
      have e2 : (48 + ((u % 10 : Nat) : Int)).toNat = 48 + u % 10 := by omega
      have e3 : bytesS ((List.range 1).map fun i => byteN ((fun i => ([[D.v (.int .u8 (IntKind.u8.wrap (IntKind.i64.wrap (48 + n.tmod 10))))]] : List (List D)).getD i []) i)) = tx [UInt8.ofNat (48 + u % 10)] := by rw [bytes1, e1, e2]
      have ci := ih (u / 10) (by omega) (IntKind.i64.wrap (n.tdiv 10)) d1 (by omega)
      have hl2 := dd_len (u / 10)
      have e4 : tx (Lib.decDigits (u / 10)) ++ bytesS ((List.range 1).map fun i => byteN ((fun i => ([[D.v (.int .u8 (IntKind.u8.wrap (IntKind.i64.wrap (48 + n.tmod 10))))]] : List (List D)).getD i []) i)) = tx r := by rw [e3, tx_app, hr]
      have hz : (((tx (Lib.decDigits (u / 10))).size + (bytesS ((List.range 1).map fun i => byteN ((fun i => ([[D.v (.int .u8 (IntKind.u8.wrap (IntKind.i64.wrap (48 + n.tmod 10))))]] : List (List D)).getD i []) i))).size : Nat) : Int) ≤ 9223372036854775807 := by
        rw [e3, tx_size, tx_size]
        simp only [List.length_cons, List.length_nil]
        omega
      refine fn_of lv108 Tryz.func108 rfl rfl (by kernel_rfl) rfl ?_
      refine bsplit_of_false (decide_eq_false (by omega)) ?_
      refine ask_intro (by decide) ?_
      refine .inl ⟨_, _, rfl, ci, rfl, ?_⟩
      refine ask_intro (by decide) ?_
      refine ask_intro ⟨strT, by omega, fun i hi => ?_⟩ ?_
      · obtain rfl : i = 0 := by omega
        rfl
      refine ask_intro hz ?_
      refine chk_intro (by kernel_rfl) ?_
      exact ⟨⟨congrArg Value.string e4, trivial⟩, rfl⟩
end Go.Proofs.YtojaakpnpdnbhaaGreatDoor.L

/- Texts of policies, cut and read: plain facts. -/
set_option linter.unusedVariables false
set_option linter.unusedSimpArgs false
set_option maxRecDepth 100000
namespace Go.Proofs.YtojaakpnpdnbhaaGreatDoor.L
open Go.RowKit
/-- a text cut at each of a byte's places -/
def cutL (b : UInt8) : List UInt8 → List (List UInt8)
  | [] => [[]]
  | c :: r => if c = b then [] :: cutL b r else match cutL b r with
    | [] => [[c]]
    | x :: xs => (c :: x) :: xs
abbrev free (b : UInt8) (a : List UInt8) : Prop := ∀ x ∈ a, x ≠ b
theorem free_tail {b c : UInt8} {a : List UInt8} (h : free b (c :: a)) : c ≠ b ∧ free b a := ⟨h c (.head _), fun x hx => h x (.tail _ hx)⟩
theorem cutL_end {b : UInt8} : ∀ {a : List UInt8}, free b a → cutL b a = [a]
  | [], _ => rfl
  | c :: a, h => by
    obtain ⟨h1, h2⟩ := free_tail h
    rw [cutL, if_neg h1, cutL_end h2]
theorem cutL_hit {b : UInt8} {r : List UInt8} : ∀ {a : List UInt8}, free b a → cutL b (a ++ b :: r) = a :: cutL b r
  | [], _ => by rw [List.nil_append, cutL, if_pos rfl]
  | c :: a, h => by
    obtain ⟨h1, h2⟩ := free_tail h
    rw [List.cons_append, cutL, if_neg h1, cutL_hit h2]
theorem cutL_cases (b : UInt8) : ∀ s : List UInt8, free b s ∨ ∃ a r, s = a ++ b :: r ∧ free b a
  | [] => .inl fun x hx => by cases hx
  | c :: l => by
    by_cases h : c = b
    · subst h
      exact .inr ⟨[], l, rfl, fun x hx => by cases hx⟩
    · rcases cutL_cases b l with h1 | ⟨a, r, rfl, h1⟩
      · refine .inl fun x hx => ?_
        rcases List.mem_cons.1 hx with rfl | hx
        · exact h
        · exact h1 x hx
      · refine .inr ⟨c :: a, r, rfl, fun x hx => ?_⟩
        rcases List.mem_cons.1 hx with rfl | hx
        · exact h
        · exact h1 x hx
theorem cutL_len (b : UInt8) : ∀ s : List UInt8, 1 ≤ (cutL b s).length ∧ (cutL b s).length ≤ s.length + 1
  | [] => by simp [cutL]
  | c :: l => by
    have ih := cutL_len b l
    unfold cutL
    split
    · simp only [List.length_cons]; omega
    · split
      · simp
      · rename_i e
        rw [e] at ih
        simp only [List.length_cons] at ih ⊢; omega
theorem cutL_memlen (b : UInt8) : ∀ (s : List UInt8), ∀ x ∈ cutL b s, x.length ≤ s.length
  | [], x, hx => by simp [cutL] at hx; simp [hx]
  | c :: l, x, hx => by
    have ih := cutL_memlen b l
    unfold cutL at hx
    split at hx
    · rcases List.mem_cons.1 hx with rfl | hx
      · simp
      · have := ih x hx; simp only [List.length_cons]; omega
    · split at hx
      · simp only [List.mem_singleton] at hx; subst hx; simp
      · rename_i e
        rw [e] at ih
        rcases List.mem_cons.1 hx with rfl | hx
        · have := ih _ (.head _)
          simp only [List.length_cons]; omega
        · have := ih x (.tail _ hx)
          simp only [List.length_cons]; omega
theorem pre1 (b c : UInt8) (l : List UInt8) : [b].isPrefixOf (c :: l) = (b == c) := by simp [List.isPrefixOf]
theorem index1 (b : UInt8) : ∀ s : List UInt8, (Lib.index s [b] = -1 ∧ free b s) ∨ ∃ a r, s = a ++ b :: r ∧ free b a ∧ Lib.index s [b] = (a.length : Int)
  | [] => .inl ⟨rfl, fun x hx => by cases hx⟩
  | c :: l => by
    by_cases h : b = c
    · subst h
      refine .inr ⟨[], l, rfl, (fun x hx => by cases hx), ?_⟩
      unfold Lib.index
      rw [pre1, beq_self_eq_true]
      rfl
    · have hp : [b].isPrefixOf (c :: l) = false := by rw [pre1]; exact beq_eq_false_iff_ne.2 h
      have hne : c ≠ b := fun e => h e.symm
      rcases index1 b l with ⟨h1, h2⟩ | ⟨a, r, rfl, h2, h3⟩
      · refine .inl ⟨?_, fun x hx => ?_⟩
        · unfold Lib.index; rw [hp, h1]; rfl
        · rcases List.mem_cons.1 hx with rfl | hx
          · exact hne
          · exact h2 x hx
      · refine .inr ⟨c :: a, r, rfl, fun x hx => ?_, ?_⟩
        · rcases List.mem_cons.1 hx with rfl | hx
          · exact hne
          · exact h2 x hx
        · unfold Lib.index
          have hm : ((a.length : Int) == -1) = false := by rw [beq_eq_false_iff_ne]; omega
          rw [hp, h3, hm]
          simp
theorem drop_hit (a : List UInt8) (b : UInt8) (r : List UInt8) : (a ++ b :: r).drop (a.length + 1) = r := by simp
theorem take_hit (a : List UInt8) (b : UInt8) (r : List UInt8) : (a ++ b :: r).take a.length = a := by simp
theorem splitK_cut (b : UInt8) : ∀ (k : Nat) (s : List UInt8), Lib.count s [b] = k → Lib.splitK [b] 0 k s = cutL b s
  | 0, s, hk => by
    rcases index1 b s with ⟨h1, h2⟩ | ⟨a, r, rfl, h2, h3⟩
    · rw [cutL_end h2]; rfl
    · rw [Lib.count_hit (by simp) h3] at hk
      omega
  | k + 1, s, hk => by
    rcases index1 b s with ⟨h1, h2⟩ | ⟨a, r, rfl, h2, h3⟩
    · rw [Lib.count_miss h1] at hk
      omega
    · have hk := hk
      rw [Lib.count_hit (by simp) h3] at hk
      have e1 : ([b] : List UInt8).length = 1 := rfl
      rw [e1, drop_hit] at hk
      have hm : ((a.length : Int) == -1) = false := by rw [beq_eq_false_iff_ne]; omega
      rw [Lib.splitK, h3, hm]
      simp only [Bool.false_eq_true, if_false, Int.toNat_natCast, Nat.add_zero, e1]
      rw [drop_hit, take_hit, splitK_cut b k r (by omega), cutL_hit h2]
theorem cut_hit (b : UInt8) (a r : List UInt8) (h : free b a) : Lib.cut (a ++ b :: r) [b] = (a, r, true) := by
  have hi : Lib.index (a ++ b :: r) [b] = (a.length : Int) := by
    rcases index1 b (a ++ b :: r) with ⟨h1, h2⟩ | ⟨a', r', e, h2, h3⟩
    · exact absurd rfl (h2 b (by simp))
    · have e1 := cutL_hit (r := r) h
      rw [e, cutL_hit h2] at e1
      rw [h3, (List.cons.inj e1).1]
  unfold Lib.cut
  rw [hi, if_pos (by omega), Int.toNat_natCast]
  have e1 : ([b] : List UInt8).length = 1 := rfl
  rw [e1, drop_hit, take_hit]
theorem cut_miss (b : UInt8) (s : List UInt8) (h : free b s) : Lib.cut s [b] = (s, [], false) := by
  have hi : Lib.index s [b] = -1 := by
    rcases index1 b s with ⟨h1, h2⟩ | ⟨a', r', e, h2, h3⟩
    · exact h1
    · exact absurd rfl (h b (by rw [e]; simp))
  unfold Lib.cut
  rw [hi, if_neg (by omega)]
/-- a number 0 to 999 of a word -/
def numW (w : List UInt8) : Option Int := if w.length < 1 ∨ 3 < w.length ∨ (1 < w.length ∧ w.getD 0 0 = 48) then none else (Lib.decFrom 0 w).map fun n => (n : Int)
theorem digV : ∀ d : Fin 10, Lib.digitVal (UInt8.ofNat (48 + d.val)) = some d.val ∧ (UInt8.ofNat (48 + d.val)).toNat = 48 + d.val := by decide
theorem digV' {d : Nat} (h : d < 10) : Lib.digitVal (UInt8.ofNat (48 + d)) = some d ∧ (UInt8.ofNat (48 + d)).toNat = 48 + d := digV ⟨d, h⟩
theorem dig_back {a : UInt8} {d : Nat} (h : Lib.digitVal a = some d) : d < 10 ∧ a = UInt8.ofNat (48 + d) := by
  obtain ⟨h1, h2, rfl⟩ := Lib.digitVal_eq h
  refine ⟨by omega, ?_⟩
  rw [show 48 + (a.toNat - 48) = a.toNat by omega, UInt8.ofNat_toNat]
theorem dd1 {u : Nat} (h : u < 10) : Lib.decDigits u = [UInt8.ofNat (48 + u)] := by rw [dd_eq, if_pos h]
theorem dd2 {u : Nat} (h : 10 ≤ u) (h2 : u < 100) : Lib.decDigits u = [UInt8.ofNat (48 + u / 10), UInt8.ofNat (48 + u % 10)] := by rw [dd_eq, if_neg (by omega), dd1 (by omega)]; rfl
theorem dd3 {u : Nat} (h : 100 ≤ u) (h2 : u < 1000) : Lib.decDigits u = [UInt8.ofNat (48 + u / 10 / 10), UInt8.ofNat (48 + u / 10 % 10), UInt8.ofNat (48 + u % 10)] := by rw [dd_eq, if_neg (by omega), dd2 (by omega) (by omega)]; rfl
theorem ne48 {d : Nat} (h : d < 10) (h1 : 1 ≤ d) : UInt8.ofNat (48 + d) ≠ 48 := fun e => by
  have := congrArg UInt8.toNat e
  rw [(digV' h).2] at this
  have e2 : (48 : UInt8).toNat = 48 := rfl
  omega
theorem decFrom1 (acc : Nat) {d : Nat} (h : d < 10) (r : List UInt8) : Lib.decFrom acc (UInt8.ofNat (48 + d) :: r) = Lib.decFrom (acc * 10 + d) r := by
  show (match Lib.digitVal (UInt8.ofNat (48 + d)) with
    | some d => Lib.decFrom (acc * 10 + d) r
    | none => none) = _
  rw [(digV' h).1]
theorem numW_dd {u : Nat} (h : u < 1000) : numW (Lib.decDigits u) = some (u : Int) := by
  unfold numW
  by_cases h1 : u < 10
  · rw [dd1 h1, if_neg (by simp), decFrom1 0 h1]
    simp [Lib.decFrom]
  · by_cases h2 : u < 100
    · have := ne48 (d := u / 10) (by omega) (by omega)
      rw [dd2 (by omega) h2, if_neg (by simpa using this), decFrom1 0 (by omega), decFrom1 _ (by omega)]
      show some (((0 * 10 + u / 10) * 10 + u % 10 : Nat) : Int) = _
      congr 1
      omega
    · have := ne48 (d := u / 10 / 10) (by omega) (by omega)
      rw [dd3 (by omega) h, if_neg (by simpa using this), decFrom1 0 (by omega), decFrom1 _ (by omega), decFrom1 _ (by omega)]
      show some ((((0 * 10 + u / 10 / 10) * 10 + u / 10 % 10) * 10 + u % 10 : Nat) : Int) = _
      congr 1
      omega
theorem decFrom_some1 {acc n : Nat} {a : UInt8} {r : List UInt8} (h : Lib.decFrom acc (a :: r) = some n) : ∃ d, d < 10 ∧ a = UInt8.ofNat (48 + d) ∧ Lib.decFrom (acc * 10 + d) r = some n := by
  simp only [Lib.decFrom] at h
  cases ha : Lib.digitVal a with
  | none => simp [ha] at h
  | some d =>
    simp only [ha] at h
    exact ⟨d, (dig_back ha).1, (dig_back ha).2, h⟩
theorem numW_some {w : List UInt8} {v : Int} (h : numW w = some v) : ∃ u : Nat, u < 1000 ∧ v = (u : Int) ∧ w = Lib.decDigits u := by
  unfold numW at h
  split at h
  · cases h
  rename_i hc
  cases hd : Lib.decFrom 0 w with
  | none => rw [hd] at h; cases h
  | some n =>
    rw [hd] at h
    obtain rfl := Option.some.inj h
    match w, hc, hd with
    | [], hc, _ => simp at hc
    | [a], _, hd =>
      obtain ⟨d, h1, rfl, h2⟩ := decFrom_some1 hd
      obtain rfl := Option.some.inj h2
      exact ⟨0 * 10 + d, by omega, rfl, by rw [dd1 (by omega), Nat.zero_mul, Nat.zero_add]⟩
    | [a, b], hc, hd =>
      obtain ⟨d, h1, rfl, h2⟩ := decFrom_some1 hd
      obtain ⟨e, h3, rfl, h4⟩ := decFrom_some1 h2
      obtain rfl := Option.some.inj h4
      have hd1 : 1 ≤ d := by
        rcases Nat.eq_zero_or_pos d with rfl | h
        · exact absurd (.inr (.inr ⟨by simp, by simp⟩)) hc
        · exact h
      refine ⟨(0 * 10 + d) * 10 + e, by omega, rfl, ?_⟩
      rw [dd2 (by omega) (by omega), show ((0 * 10 + d) * 10 + e) / 10 = d by omega, show ((0 * 10 + d) * 10 + e) % 10 = e by omega]
    | [a, b, c], hc, hd =>
      obtain ⟨d, h1, rfl, h2⟩ := decFrom_some1 hd
      obtain ⟨e, h3, rfl, h4⟩ := decFrom_some1 h2
      obtain ⟨f, h5, rfl, h6⟩ := decFrom_some1 h4
      obtain rfl := Option.some.inj h6
      have hd1 : 1 ≤ d := by
        rcases Nat.eq_zero_or_pos d with rfl | h
        · exact absurd (.inr (.inr ⟨by simp, by simp⟩)) hc
        · exact h
      refine ⟨((0 * 10 + d) * 10 + e) * 10 + f, by omega, rfl, ?_⟩
      rw [dd3 (by omega) (by omega), show (((0 * 10 + d) * 10 + e) * 10 + f) / 10 / 10 = d by omega, show (((0 * 10 + d) * 10 + e) * 10 + f) / 10 % 10 = e by omega, show (((0 * 10 + d) * 10 + e) * 10 + f) % 10 = f by omega]
    | a :: b :: c :: d :: r, hc, _ => simp at hc
theorem parseU1 (acc : Nat) {d : Nat} (h : d < 10) (ha : acc ≤ 1000000) (r : List UInt8) : Lib.parseUint10 acc (UInt8.ofNat (48 + d) :: r) = Lib.parseUint10 (acc * 10 + d) r := by
  have h2 := (digV' h).2
  simp only [Lib.parseUint10, h2]
  rw [if_pos (by omega), if_neg (by omega), if_neg (by omega)]
  congr 1
  omega
theorem atoiAll_one {l : List UInt8} {u : Nat} {d : Nat} {r : List UInt8} (hl : l = UInt8.ofNat (48 + d) :: r) (hd : d < 10) (h : Lib.parseUint10 0 l = .ok u) (hu : u < 1000) : Lib.atoiAll l = .ok (u : Int) := by
  subst hl
  have h2 := (digV' hd).2
  unfold Lib.atoiAll
  simp only [h2]
  rw [if_neg (by omega)]
  unfold Lib.parseMag
  rw [if_neg (by simp), h]
  show (if ¬ (48 + d = 45) ∧ 9223372036854775808 ≤ u then _ else _) = _
  rw [if_neg (by omega), if_neg (by omega), if_neg (by omega)]
theorem atoiAll_dd {u : Nat} (h : u < 1000) : Lib.atoiAll (Lib.decDigits u) = .ok (u : Int) := by
  by_cases h1 : u < 10
  · refine atoiAll_one (dd1 h1) h1 ?_ h
    rw [dd1 h1, parseU1 _ h1 (by omega)]
    show Lib.NumEnd.ok (0 * 10 + u) = _
    congr 1
    omega
  · by_cases h2 : u < 100
    · refine atoiAll_one (dd2 (by omega) h2) (by omega) ?_ h
      rw [dd2 (by omega) h2, parseU1 _ (by omega) (by omega), parseU1 _ (by omega) (by omega)]
      show Lib.NumEnd.ok ((0 * 10 + u / 10) * 10 + u % 10) = _
      congr 1
      omega
    · refine atoiAll_one (dd3 (by omega) h) (by omega) ?_ h
      rw [dd3 (by omega) h, parseU1 _ (by omega) (by omega), parseU1 _ (by omega) (by omega), parseU1 _ (by omega) (by omega)]
      show Lib.NumEnd.ok (((0 * 10 + u / 10 / 10) * 10 + u / 10 % 10) * 10 + u % 10) = _
      congr 1
      omega
/-- the words of a line -/
def wOwn : List UInt8 := [111, 119, 110]
def wLane : List UInt8 := [108, 97, 110, 101]
def wBell : List UInt8 := [98, 101, 108, 108]
def wSlot : List UInt8 := [115, 108, 111, 116]
def kindW (w : List UInt8) : Int := if w = wOwn then 0 else if w = wLane then 1 else if w = wBell then 2 else if w = wSlot then 3 else -1
theorem kindW_in (w : List UInt8) : -1 ≤ kindW w ∧ kindW w ≤ 3 := by
  unfold kindW
  split
  · omega
  · split
    · omega
    · split
      · omega
      · split <;> omega
def numsW : List (List UInt8) → Option (List Int)
  | [] => some []
  | w :: r => match numW w with
    | none => none
    | some v => match numsW r with
      | none => none
      | some l => some (v :: l)
def wantOK (k : Int) (n : Nat) : Bool := if k = 0 then decide (1 ≤ n ∧ n ≤ 9) else if k = 1 then decide (n = 5) else decide (n = 2)
def wordsW (line : List UInt8) : Option (Int × List Int) := match numsW ((cutL 32 line).drop 1) with
  | none => none
  | some n => if kindW ((cutL 32 line).getD 0 []) < 0 then none else if wantOK (kindW ((cutL 32 line).getD 0 [])) n.length = true then some (kindW ((cutL 32 line).getD 0 []), n) else none
theorem numsW_some : ∀ {l : List (List UInt8)} {n : List Int}, numsW l = some n → n.length = l.length ∧ (∀ v ∈ n, 0 ≤ v ∧ v ≤ 999) ∧ l = n.map fun v => Lib.decDigits v.toNat
  | [], n, h => by
    obtain rfl := Option.some.inj h
    exact ⟨rfl, (fun v hv => by cases hv), rfl⟩
  | w :: r, n, h => by
    unfold numsW at h
    cases hw : numW w with
    | none => rw [hw] at h; cases h
    | some v =>
      rw [hw] at h
      cases hr : numsW r with
      | none => rw [hr] at h; cases h
      | some l =>
        rw [hr] at h
        obtain rfl := Option.some.inj h
        obtain ⟨h1, h2, h3⟩ := numsW_some hr
        obtain ⟨u, u1, rfl, rfl⟩ := numW_some hw
        refine ⟨by simp [h1], fun x hx => ?_, ?_⟩
        · rcases List.mem_cons.1 hx with rfl | hx
          · omega
          · exact h2 x hx
        · rw [List.map_cons, ← h3]
          simp
theorem numsW_dd : ∀ {n : List Int}, (∀ v ∈ n, 0 ≤ v ∧ v ≤ 999) → numsW (n.map fun v => Lib.decDigits v.toNat) = some n
  | [], _ => rfl
  | v :: n, h => by
    have h1 := h v (.head _)
    rw [List.map_cons, numsW, numW_dd (by omega), numsW_dd (fun x hx => h x (.tail _ hx))]
    have : ((v.toNat : Nat) : Int) = v := by omega
    simp only [this]
theorem numsW_snoc : ∀ (l : List (List UInt8)) (w : List UInt8), numsW (l ++ [w]) = match numsW l with
    | none => none
    | some n => match numW w with
      | none => none
      | some v => some (n ++ [v])
  | [], w => by
    simp only [List.nil_append, numsW]
  | x :: l, w => by
    rw [List.cons_append, numsW, numsW_snoc l w, numsW]
    cases numW x with
    | none => rfl
    | some v =>
      cases numsW l with
      | none => rfl
      | some n => cases numW w <;> rfl
theorem numsW_none {l : List (List UInt8)} (h : numsW l = none) : ∀ (r : List (List UInt8)), numsW (l ++ r) = none
  | [] => by rw [List.append_nil]; exact h
  | w :: r => by
    rw [show l ++ w :: r = (l ++ [w]) ++ r by simp]
    refine numsW_none (l := l ++ [w]) ?_ r
    rw [numsW_snoc, h]
/-- a policy with a line more -/
def addP (p : PolM) (k : Int) (n : List Int) : PolM := if k = 0 then { p with own := p.own ++ [n] }
  else if k = 1 then { p with lns := p.lns ++ [⟨n.getD 0 0, n.getD 1 0, n.getD 2 0, n.getD 3 0, n.getD 4 0⟩] }
  else if k = 2 then { p with bls := p.bls ++ [⟨n.getD 0 0, n.getD 1 0⟩] }
  else { p with pln := p.pln ++ [⟨n.getD 0 0, n.getD 1 0⟩] }
def noPol : PolM := ⟨[], [], [], []⟩
/-- the lines read from the i-th on: a policy, or the line that is wrong -/
def parseR (p : PolM) (last i : Int) : List (List UInt8) → PolM × Int × Bool
  | [] => (p, i, true)
  | [x] => if x = [] then (p, i, true) else (noPol, i, false)
  | x :: y :: r => match wordsW x with
    | none => (noPol, i, false)
    | some (k, n) => if k < last then (noPol, i, false) else parseR (addP p k n) k (i + 1) (y :: r)
theorem wordsW_some {x : List UInt8} {k : Int} {n : List Int} (h : wordsW x = some (k, n)) : 0 ≤ k ∧ k ≤ 3 ∧ wantOK k n.length = true ∧ numsW ((cutL 32 x).drop 1) = some n ∧ kindW ((cutL 32 x).getD 0 []) = k := by
  unfold wordsW at h
  cases hn : numsW ((cutL 32 x).drop 1) with
  | none => rw [hn] at h; cases h
  | some m =>
    rw [hn] at h
    have := kindW_in ((cutL 32 x).getD 0 [])
    simp only at h
    split at h
    · cases h
    · split at h
      · cases h
        exact ⟨by omega, by omega, by assumption, rfl, rfl⟩
      · cases h
theorem wantOK_le {k : Int} {n : Nat} (h : wantOK k n = true) : 1 ≤ n ∧ n ≤ 9 := by
  unfold wantOK at h
  split at h
  · exact of_decide_eq_true h
  · split at h
    · have := of_decide_eq_true h; omega
    · have := of_decide_eq_true h; omega
/-- a policy that has been read from i lines -/
structure PolRead (p : PolM) (i : Nat) : Prop where
  tot : p.own.length + p.lns.length + p.bls.length + p.pln.length = i
  row : ∀ j, j < p.own.length → (p.own.getD j []).length ≤ 9
theorem PolRead.none : PolRead noPol 0 := ⟨rfl, fun j hj => absurd hj (Nat.not_lt_zero _)⟩
theorem PolRead.small {p : PolM} {i : Nat} (h : PolRead p i) (hi : i ≤ 2000) : p.small := by
  obtain ⟨h1, h2⟩ := h
  exact ⟨by omega, fun j hj => by have := h2 j hj; omega, by omega, by omega, by omega⟩
theorem PolRead.add {p : PolM} {i : Nat} (h : PolRead p i) {k : Int} {n : List Int} (hn : wantOK k n.length = true) : PolRead (addP p k n) (i + 1) := by
  obtain ⟨h1, h2⟩ := h
  have hn9 := (wantOK_le hn).2
  unfold addP
  split
  · refine ⟨by simp; omega, fun j hj => ?_⟩
    simp only [List.length_append, List.length_cons, List.length_nil] at hj
    by_cases e : j < p.own.length
    · have := h2 j e
      simp only [List.getD] at this ⊢
      rw [List.getElem?_append_left e]
      exact this
    · obtain rfl : j = p.own.length := by omega
      simp only [List.getD]
      rw [List.getElem?_append_right (Nat.le_refl _)]
      simpa using hn9
  · split
    · exact ⟨by simp; omega, h2⟩
    · split
      · exact ⟨by simp; omega, h2⟩
      · exact ⟨by simp; omega, h2⟩
/-- what the reading of a text answers: a code, a line, a policy -/
def parsePol (flt : PolM → Int) (t : List UInt8) : Int × Int × PolM := if 1000 < t.length then (2, 0, noPol) else
  match parseR noPol 0 0 (cutL 10 t) with
  | (p, i, true) => if flt p = 0 then (0, 0, p) else (flt p, 0, noPol)
  | (_, i, false) => (5, i, noPol)
end Go.Proofs.YtojaakpnpdnbhaaGreatDoor.L

/- A line of a word and numbers: contracts. -/
set_option linter.unusedVariables false
set_option linter.unusedSimpArgs false
set_option maxRecDepth 100000
namespace Go.Proofs.YtojaakpnpdnbhaaGreatDoor.L
open Go.RowKit
def decT (l : List Int) : List (List UInt8) := l.map fun w => Lib.decDigits w.toNat
abbrev few32 (l : List Int) : Prop := ∀ x ∈ l, 0 ≤ x ∧ x ≤ 4294967295
abbrev oTxs (l : List (List UInt8)) : RC := .own 9 1 l.length (txsF l)
abbrev txE (l : List (List UInt8)) : Ent := .row 9 1 l.length (txsF l)
theorem decT_snoc (l : List Int) (i : Nat) (h : i < l.length) : decT (l.take (i + 1)) = decT (l.take i) ++ [Lib.decDigits (l.getD i 0).toNat] := by
  rw [List.take_succ_eq_append_getElem h, getD_at 0 h]
  unfold decT
  rw [List.map_append, List.map_cons, List.map_nil]
theorem getD_few {l : List Int} (h : few32 l) {i : Nat} (hi : i < l.length) : 0 ≤ l.getD i 0 ∧ l.getD i 0 ≤ 4294967295 := h _ (by
  rw [getD_at 0 hi]
  exact List.getElem_mem _)
theorem upto_txs (a b : List (List UInt8)) (g : Nat → List D) (hg : ∀ j, j < b.length → g j = txsF b j) (i : Nat) (h : i < a.length + b.length) : upto a.length (txsF a) g i = txsF (a ++ b) i := by
  unfold upto
  by_cases hi : i < a.length
  · rw [if_pos hi]
    show [D.v (.string (tx (a.getD i [])))] = _
    simp [List.getD, List.getElem?_append, hi]
  · rw [if_neg hi, hg _ (by omega)]
    show [D.v (.string (tx (b.getD (i - a.length) [])))] = _
    simp [List.getD, List.getElem?_append, hi]
theorem upto_tx1 (w : List UInt8) (b : List (List UInt8)) : ∀ q, upto 1 (fun i => ([[D.v (.string (tx w))]] : List (List D)).getD i []) (txsF b) q = txsF (w :: b) q
  | 0 => rfl
  | q + 1 => by simp [upto]
theorem c_impl_decimals (l : List Int) (hn : l.length ≤ 1000) (hf : few32 l) : FnOK Tryz.prog 62 [.d (ints l)] (.r (.one (oTxs (decT l)))) := by
  refine fn_of lv62 Tryz.func62 rfl rfl (by kernel_rfl) rfl ?_
  refine ⟨{ i : Nat // i ≤ l.length }, fun i => ⟨frL [(3, .row 96), (7, .d (ints l)), (8, di l.length), (9, di i.1)], hpL [(96, txE (decT (l.take i.1)))], 97, 0⟩, fun i => l.length - i.1, ⟨0, by omega⟩,
    le_of [(96, 4096)] rfl rfl rfl rfl (tellHp_row rfl rfl (by simp [decT]) (fun j hj => absurd hj (by omega)) tellHp_nil) (tellFr_row rfl rfl (tellFr_d rfl (DLe.refl _) (tellFr_v rfl rfl (tellFr_v rfl rfl trivial)))), ?_⟩
  rintro ⟨i, hi⟩
  by_cases hb : i < l.length
  · have hx := getD_few hf hb
    have c1 := c_impl_decimal (l.getD i 0) hx.1 (by omega)
    have hwi := congrArg (Value.int .i64) (wrap1 hb (by omega))
    have hsn := decT_snoc l i hb
    have hlen : (decT (l.take i)).length ≤ 1000 := by unfold decT; rw [List.length_map, List.length_take]; omega
    refine bsplit_of_true (decide_eq_true (show (i : Int) < (l.length : Int) by omega)) ?_
    refine ask_intro ⟨by omega, by show (i : Int) < (l.length : Int); omega, rfl⟩ ?_
    refine .inl ⟨_, _, rfl, c1, rfl, ?_⟩
    refine ask_intro ⟨by show ((decT (l.take i)).length + 1) * 16 ≤ 140737488355328; omega, by show (decT (l.take i)).length + 1 ≤ 9223372036854775807; omega, fun j hj => by obtain rfl : j = 0 := (by omega); rfl⟩ ?_
    refine ⟨⟨i + 1, by omega⟩, le_of [(96, 8417)] rfl rfl rfl rfl (tellHp_row rfl rfl ?_ (fun j hj => ?_) tellHp_nil) (tellFr_row rfl rfl (tellFr_d rfl (DLe.refl _) (tellFr_v rfl rfl (tellFr_v rfl hwi trivial)))), by show l.length - (i + 1) < l.length - i; omega⟩
    · show (decT (l.take i)).length + 1 = (decT (l.take (i + 1))).length
      rw [hsn, List.length_append, List.length_cons, List.length_nil]
    · have hj : j < (decT (l.take i)).length + 1 := hj
      rw [hsn]
      exact upto_txs _ [Lib.decDigits (l.getD i 0).toNat] _ (fun q hq => by obtain rfl : q = 0 := (by simpa using hq); rfl) j hj
  · obtain rfl : i = l.length := by omega
    refine bsplit_of_false (decide_eq_false (show ¬ (l.length : Int) < (l.length : Int) by omega)) ?_
    refine ⟨⟨⟨rfl, rfl, ?_, fun j hj => ⟨?_, rfl⟩⟩, trivial⟩, rfl⟩
    · show (decT (l.take l.length)).length = _
      rw [List.take_length]
    · show txsF (decT (l.take l.length)) j = _
      rw [List.take_length]
/-- a line: a word and numbers -/
def lineB (w : List UInt8) (l : List Int) : List UInt8 := w ++ Lib.joinTail [32] (decT l)
theorem lineB_snoc (w : List UInt8) (l : List Int) (i : Nat) (h : i < l.length) : lineB w (l.take (i + 1)) = lineB w (l.take i) ++ [32] ++ Lib.decDigits (l.getD i 0).toNat := by
  unfold lineB
  rw [decT_snoc l i h]
  simp [Lib.joinTail, List.append_assoc]
theorem lineB_len (w : List UInt8) : ∀ {l : List Int}, few32 l → (lineB w l).length ≤ w.length + 4294967297 * l.length
  | [], _ => by simp [lineB, decT, Lib.joinTail]
  | x :: l, h => by
    have h1 := h x (.head _)
    have h2 := lineB_len w (l := l) (fun y hy => h y (.tail _ hy))
    have h3 := dd_len x.toNat
    unfold lineB decT Lib.joinTail at h2 ⊢
    simp only [List.map_cons, List.flatten_cons, List.length_append, List.length_cons, List.length_nil] at h2 ⊢
    omega
def lineT (w : List UInt8) (l : List Int) : List UInt8 := lineB w l ++ [10]
theorem lineT_len (w : List UInt8) {l : List Int} (h : few32 l) : (lineT w l).length ≤ w.length + 4294967297 * l.length + 1 := by
  have := lineB_len w h
  unfold lineT
  rw [List.length_append, List.length_cons, List.length_nil]
  omega
theorem c_impl_numbered (w : List UInt8) (l : List Int) (hw : w.length ≤ 100) (hn : l.length ≤ 1000) (hf : few32 l) : FnOK Tryz.prog 30 [dT w, .d (ints l)] (rT (lineT w l)) := by
  have c1 := c_impl_decimals l hn hf
  have hdl : (decT l).length = l.length := by unfold decT; rw [List.length_map]
  have hj : Lib.join (w :: decT l) [32] = lineB w l := Lib.join_cons _ _ _
  have hlb := lineB_len w hf
  have c2 := c_impl_line (w :: decT l) (by rw [List.length_cons]; omega) (by rw [hj]; omega)
  rw [hj] at c2
  refine fn_of lv30 Tryz.func30 rfl rfl (by kernel_rfl) rfl ?_
  refine .inl ⟨_, _, rfl, c1, rfl, ?_⟩
  refine ask_intro ⟨by show (1 + (decT l).length) * 16 ≤ 140737488355328; omega, by show 1 + (decT l).length ≤ 9223372036854775807; omega, fun j hj => rfl⟩ ?_
  refine .inl ⟨_, _, rfl, c2.weak ⟨LVLe.d (DLe.l (by rw [List.length_cons]; omega) (fun q hq => upto_tx1 w (decT l) q)), trivial⟩, rfl, ?_⟩
  exact ⟨⟨rfl, trivial⟩, rfl⟩
theorem c_spec_l6Line (w : List UInt8) (l : List Int) (hw : w.length ≤ 100) (hn : l.length ≤ 1000) (hf : few32 l) : FnOK Tryz.prog 87 [dT w, .d (ints l)] (rT (lineT w l)) := by
  have hlb := lineB_len w hf
  refine fn_of lv87 Tryz.func87 rfl rfl (by kernel_rfl) rfl ?_
  refine ⟨{ i : Nat // i ≤ l.length }, fun i => ⟨frL [(0, dT (lineB w (l.take i.1))), (1, .d (ints l)), (5, di i.1)], hpL [], 97, 0⟩, fun i => l.length - i.1, ⟨0, by omega⟩,
    le_of [] rfl rfl rfl rfl tellHp_nil (tellFr_v rfl (congrArg (fun z => Value.string (tx z)) (show w = lineB w [] by simp [lineB, decT, Lib.joinTail])) (tellFr_d rfl (DLe.refl _) (tellFr_v rfl rfl trivial))), ?_⟩
  rintro ⟨i, hi⟩
  have hft : few32 (l.take i) := fun x hx => hf x (List.mem_of_mem_take hx)
  have hlt := lineB_len w hft
  have hll : (l.take i).length ≤ 1000 := by rw [List.length_take]; omega
  by_cases hb : i < l.length
  · have hx := getD_few hf hb
    have hd := dd_len (l.getD i 0).toNat
    have c1 := c_spec_l2Digits (l.getD i 0).toNat (l.getD i 0) (by omega) (by omega)
    have hwi := congrArg (Value.int .i64) (wrap1 hb (by omega))
    have hsn := lineB_snoc w l i hb
    have e1 := tx_app (lineB w (l.take i)) [32]
    have e2 : tx (lineB w (l.take i)) ++ tx [32] ++ tx (Lib.decDigits (l.getD i 0).toNat) = tx (lineB w (l.take (i + 1))) := by rw [e1, tx_app, hsn]
    have hz1 : (((tx (lineB w (l.take i))).size + (tx [32]).size : Nat) : Int) ≤ 9223372036854775807 := by
      rw [tx_size, tx_size]
      simp only [List.length_cons, List.length_nil]
      omega
    have hz2 : (((tx (lineB w (l.take i)) ++ tx [32]).size + (tx (Lib.decDigits (l.getD i 0).toNat)).size : Nat) : Int) ≤ 9223372036854775807 := by
      rw [e1, tx_size, tx_size, List.length_append]
      simp only [List.length_cons, List.length_nil]
      omega
    refine bsplit_of_true (decide_eq_true (show (i : Int) < (l.length : Int) by omega)) ?_
    refine ask_intro hz1 ?_
    refine ask_intro ⟨by omega, by show (i : Int) < (l.length : Int); omega, rfl⟩ ?_
    refine .inl ⟨_, _, rfl, c1, rfl, ?_⟩
    refine ask_intro hz2 ?_
    exact ⟨⟨i + 1, by omega⟩, le_of [] rfl rfl rfl rfl tellHp_nil (tellFr_v rfl (congrArg Value.string e2) (tellFr_d rfl (DLe.refl _) (tellFr_v rfl hwi trivial))), by show l.length - (i + 1) < l.length - i; omega⟩
  · obtain rfl : i = l.length := by omega
    have e3 : tx (lineB w (l.take l.length)) ++ tx [10] = tx (lineT w l) := by rw [List.take_length, tx_app]; rfl
    have hz3 : (((tx (lineB w (l.take l.length))).size + (tx [10]).size : Nat) : Int) ≤ 9223372036854775807 := by
      rw [tx_size, tx_size]
      simp only [List.length_cons, List.length_nil]
      omega
    refine bsplit_of_false (decide_eq_false (show ¬ (l.length : Int) < (l.length : Int) by omega)) ?_
    refine ask_intro hz3 ?_
    exact ⟨⟨congrArg Value.string e3, trivial⟩, rfl⟩
end Go.Proofs.YtojaakpnpdnbhaaGreatDoor.L

/- The reference's reading of a policy's text: contracts. -/
set_option linter.unusedVariables false
set_option linter.unusedSimpArgs false
set_option maxRecDepth 100000
namespace Go.Proofs.YtojaakpnpdnbhaaGreatDoor.L
open Go.RowKit
theorem tx_ext (t : List UInt8) (i j : Nat) : (tx t).extract i j = tx ((t.take j).drop i) := by
  apply ByteArray.ext
  apply Array.ext'
  simp [tx, ByteArray.data_extract, List.extract_eq_take_drop, List.drop_take]
theorem byteAt_tx (t : List UInt8) (i : Nat) : byteAt (tx t) (i : Int) = ((t.getD i 0).toNat : Int) := by
  unfold byteAt
  rw [tx_list, Int.toNat_natCast]
theorem byte_eq {a b : UInt8} : ((a.toNat : Int) == (b.toNat : Int)) = decide (a = b) := by
  by_cases h : a = b
  · subst h; simp
  · rw [decide_eq_false h, beq_eq_false_iff_ne]
    intro e
    exact h (UInt8.toNat_inj.1 (by omega))
/-- the state of the cutting: pieces, where the last begins, place -/
def CutAt (b : UInt8) (t : List UInt8) (x : List (List UInt8) × Nat × Nat) : Prop :=
  x.2.1 ≤ x.2.2 ∧ x.1.length ≤ x.2.2 ∧ ((x.2.2 ≤ t.length ∧ free b ((t.take x.2.2).drop x.2.1) ∧ x.1 ++ cutL b (t.drop x.2.1) = cutL b t) ∨ (x.2.2 = t.length + 1 ∧ x.1 = cutL b t))
theorem CutAt.zero (b : UInt8) (t : List UInt8) : CutAt b t ([], 0, 0) := ⟨Nat.le_refl _, Nat.le_refl _, .inl ⟨Nat.zero_le _, (fun x hx => by simp at hx), by simp⟩⟩
theorem drop_split (t : List UInt8) {f i : Nat} (hf : f ≤ i) (hi : i < t.length) : t.drop f = (t.take i).drop f ++ t.getD i 0 :: t.drop (i + 1) := by
  have e1 : t.getD i 0 = t[i] := by simp [List.getD, hi]
  rw [e1]
  conv => lhs; rw [← List.take_append_drop i t]
  rw [List.drop_append_of_le_length (by rw [List.length_take]; omega), List.drop_eq_getElem_cons hi]
theorem CutAt.hit {b : UInt8} {t : List UInt8} {o : List (List UInt8)} {f i : Nat} (h : CutAt b t (o, f, i)) (hi : i < t.length) (hb : t.getD i 0 = b) : CutAt b t (o ++ [(t.take i).drop f], i + 1, i + 1) := by
  obtain ⟨h1, h2, h3⟩ := h
  simp only at h1 h2 h3
  rcases h3 with ⟨h3, h4, h5⟩ | ⟨h3, _⟩
  · refine ⟨Nat.le_refl _, by simp; omega, .inl ⟨by show i + 1 ≤ t.length; omega, (fun x hx => by simp at hx), ?_⟩⟩
    rw [← h5, drop_split t h1 hi, hb, cutL_hit h4]
    simp
  · omega
theorem CutAt.fin {b : UInt8} {t : List UInt8} {o : List (List UInt8)} {f i : Nat} (h : CutAt b t (o, f, i)) (hi : i = t.length) : CutAt b t (o ++ [(t.take i).drop f], i + 1, i + 1) := by
  obtain ⟨h1, h2, h3⟩ := h
  simp only at h1 h2 h3
  rcases h3 with ⟨h3, h4, h5⟩ | ⟨h3, _⟩
  · refine ⟨Nat.le_refl _, by simp; omega, .inr ⟨by show i + 1 = t.length + 1; omega, ?_⟩⟩
    subst hi
    rw [List.take_length] at h4 ⊢
    rw [← h5, cutL_end h4]
  · omega
theorem CutAt.miss {b : UInt8} {t : List UInt8} {o : List (List UInt8)} {f i : Nat} (h : CutAt b t (o, f, i)) (hi : i < t.length) (hb : t.getD i 0 ≠ b) : CutAt b t (o, f, i + 1) := by
  obtain ⟨h1, h2, h3⟩ := h
  simp only at h1 h2 h3
  rcases h3 with ⟨h3, h4, h5⟩ | ⟨h3, _⟩
  · refine ⟨by show f ≤ i + 1; omega, by show o.length ≤ i + 1; omega, .inl ⟨by show i + 1 ≤ t.length; omega, ?_, h5⟩⟩
    have e1 : t.getD i 0 = t[i] := by simp [List.getD, hi]
    show free b ((t.take (i + 1)).drop f)
    rw [List.take_succ_eq_append_getElem hi, List.drop_append_of_le_length (by rw [List.length_take]; omega)]
    intro x hx
    rcases List.mem_append.1 hx with hx | hx
    · exact h4 x hx
    · rw [List.mem_singleton] at hx
      rw [hx, ← e1]
      exact hb
  · omega
theorem CutAt.le {b : UInt8} {t : List UInt8} {x : List (List UInt8) × Nat × Nat} (h : CutAt b t x) : x.2.2 ≤ t.length + 1 := by
  rcases h.2.2 with ⟨h, _⟩ | ⟨h, _⟩ <;> omega
theorem CutAt.done {b : UInt8} {t : List UInt8} {o : List (List UInt8)} {f i : Nat} (h : CutAt b t (o, f, i)) (hi : ¬ i ≤ t.length) : o = cutL b t := by
  rcases h.2.2 with ⟨h, _⟩ | ⟨_, h⟩
  · exact absurd h hi
  · exact h
set_option maxHeartbeats 1600000 in
theorem c_spec_l6Cut (t : List UInt8) (b : UInt8) (ht : t.length ≤ 1000000) : FnOK Tryz.prog 15 [dT t, dv (.int .u8 b.toNat)] (.r (.one (oTxs (cutL b t)))) := by
  have hsz := tx_size t
  refine fn_of lv15 Tryz.func15 rfl rfl (by kernel_rfl) rfl ?_
  refine ⟨{ x : List (List UInt8) × Nat × Nat // CutAt b t x }, fun x => ⟨frL [(0, dT t), (1, dv (.int .u8 b.toNat)), (5, .row 96), (6, di x.1.2.1), (7, di x.1.2.2)], hpL [(96, txE x.1.1)], 97, 0⟩, fun x => t.length + 1 - x.1.2.2, ⟨([], 0, 0), CutAt.zero b t⟩,
    le_of [(96, 4096)] rfl rfl rfl rfl (tellHp_row rfl rfl rfl (fun j hj => absurd hj (Nat.not_lt_zero _)) tellHp_nil) (tellFr_v rfl rfl (tellFr_v rfl rfl (tellFr_row rfl rfl (tellFr_v rfl rfl (tellFr_v rfl rfl trivial))))), ?_⟩
  rintro ⟨⟨o, f, i⟩, hc⟩
  have hle := hc.le
  have hfi := hc.1
  have hol := hc.2.1
  simp only at hle hfi hol
  have hsn : ∀ w : List UInt8, (o ++ [w]).length = o.length + 1 := fun w => by simp
  by_cases h : i ≤ t.length
  · have hwi : IntKind.i64.wrap ((i : Int) + 1) = ((i + 1 : Nat) : Int) := wrap_i64 (i + 1) (by omega) (by omega)
    have hwv := congrArg (Value.int .i64) hwi
    have hpc := congrArg Value.string (tx_ext t f i)
    refine bsplit_of_true (decide_eq_true (show (i : Int) ≤ ((tx t).size : Int) by omega)) ?_
    by_cases he : i = t.length
    · have hc2 := hc.fin he
      refine bsplit_of_true (show ((i : Int) == ((tx t).size : Int)) = true by rw [hsz, he]; simp) ?_
      repeat' (first | refine bsplit_true ?_ | refine bsplit_false ?_)
      refine ask_intro ⟨by show (0 : Int) ≤ (f : Int); omega, by show (f : Int) ≤ (i : Int); omega, by show (i : Int) ≤ ((tx t).size : Int); omega⟩ ?_
      refine ask_intro ⟨by show (o.length + 1) * 16 ≤ 140737488355328; omega, by show o.length + 1 ≤ 9223372036854775807; omega, fun j hj => by obtain rfl : j = 0 := (by omega); rfl⟩ ?_
      exact ⟨⟨(o ++ [(t.take i).drop f], i + 1, i + 1), hc2⟩,
        le_of [(96, 8481)] rfl rfl rfl rfl (tellHp_row rfl rfl (hsn _).symm (fun j hj => upto_txs o [(t.take i).drop f] _ (fun q hq => by obtain rfl : q = 0 := (by simpa using hq); exact congrArg (fun v => [D.v v]) hpc) j hj) tellHp_nil) (tellFr_v rfl rfl (tellFr_v rfl rfl (tellFr_row rfl rfl (tellFr_v rfl hwv (tellFr_v rfl hwv trivial))))), by show t.length + 1 - (i + 1) < t.length + 1 - i; omega⟩
    · have hil : i < t.length := by omega
      have hby := byteAt_tx t i
      refine bsplit_of_false (show ((i : Int) == ((tx t).size : Int)) = false by rw [hsz, beq_eq_false_iff_ne]; omega) ?_
      repeat' (first | refine bsplit_true ?_ | refine bsplit_false ?_)
      refine ask_intro ⟨by show (0 : Int) ≤ (i : Int); omega, by show (i : Int) < ((tx t).size : Int); omega⟩ ?_
      repeat' (first | refine bsplit_true ?_ | refine bsplit_false ?_)
      by_cases hb : t.getD i 0 = b
      · have hc2 := hc.hit hil hb
        refine bsplit_of_true (show (byteAt (tx t) (i : Int) == (b.toNat : Int)) = true by rw [hby, byte_eq, decide_eq_true hb]) ?_
        refine ask_intro ⟨by show (0 : Int) ≤ (f : Int); omega, by show (f : Int) ≤ (i : Int); omega, by show (i : Int) ≤ ((tx t).size : Int); omega⟩ ?_
        refine ask_intro ⟨by show (o.length + 1) * 16 ≤ 140737488355328; omega, by show o.length + 1 ≤ 9223372036854775807; omega, fun j hj => by obtain rfl : j = 0 := (by omega); rfl⟩ ?_
        exact ⟨⟨(o ++ [(t.take i).drop f], i + 1, i + 1), hc2⟩,
          le_of [(96, 8481)] rfl rfl rfl rfl (tellHp_row rfl rfl (hsn _).symm (fun j hj => upto_txs o [(t.take i).drop f] _ (fun q hq => by obtain rfl : q = 0 := (by simpa using hq); exact congrArg (fun v => [D.v v]) hpc) j hj) tellHp_nil) (tellFr_v rfl rfl (tellFr_v rfl rfl (tellFr_row rfl rfl (tellFr_v rfl hwv (tellFr_v rfl hwv trivial))))), by show t.length + 1 - (i + 1) < t.length + 1 - i; omega⟩
      · have hc2 := hc.miss hil hb
        refine bsplit_of_false (show (byteAt (tx t) (i : Int) == (b.toNat : Int)) = false by rw [hby, byte_eq, decide_eq_false hb]) ?_
        exact ⟨⟨(o, f, i + 1), hc2⟩,
          le_of [(96, 96)] rfl rfl rfl rfl (tellHp_row rfl rfl rfl (fun j hj => rfl) tellHp_nil) (tellFr_v rfl rfl (tellFr_v rfl rfl (tellFr_row rfl rfl (tellFr_v rfl rfl (tellFr_v rfl hwv trivial))))), by show t.length + 1 - (i + 1) < t.length + 1 - i; omega⟩
  · refine bsplit_of_false (decide_eq_false (show ¬ (i : Int) ≤ ((tx t).size : Int) by omega)) ?_
    have hd := hc.done h
    refine ⟨⟨⟨rfl, rfl, congrArg List.length hd, fun j hj => ⟨congrFun (congrArg txsF hd) j, rfl⟩⟩, trivial⟩, rfl⟩
end Go.Proofs.YtojaakpnpdnbhaaGreatDoor.L

/- The reference's reading of a policy's lines: contracts. -/
set_option linter.unusedVariables false
set_option linter.unusedSimpArgs false
set_option maxRecDepth 100000
namespace Go.Proofs.YtojaakpnpdnbhaaGreatDoor.L
open Go.RowKit
def numV (w : List UInt8) : Int := (numW w).getD 0
abbrev numR (w : List UInt8) : RV := .tup [.one (.v (.int .i64 (numV w))), .one (.v (.bool (numW w).isSome))]
theorem dec_none {w : List UInt8} {i : Nat} (hi : i < w.length) (h : ¬ (48 ≤ (w.getD i 0).toNat ∧ (w.getD i 0).toNat ≤ 57)) : Lib.decFrom 0 w = none := by
  cases hd : Lib.decFrom 0 w with
  | none => rfl
  | some n =>
    obtain ⟨d, hd⟩ := Lib.digit_of_decFrom w 0 n hd i (w.getD i 0) (by simp [List.getD, hi])
    exact absurd (by obtain ⟨a, b, _⟩ := Lib.digitVal_eq hd; exact ⟨a, b⟩) h
theorem dec_step {w : List UInt8} {i n : Nat} (hi : i < w.length) (h1 : 48 ≤ (w.getD i 0).toNat) (h2 : (w.getD i 0).toNat ≤ 57) (hn : Lib.decFrom 0 (w.take i) = some n) : Lib.decFrom 0 (w.take (i + 1)) = some (n * 10 + ((w.getD i 0).toNat - 48)) :=
  Lib.decFrom_take w i 0 n (w.getD i 0) _ hn (by simp [List.getD, hi]) (by unfold Lib.digitVal; rw [if_pos ⟨h1, h2⟩])
theorem dec_lt {w : List UInt8} {i n : Nat} (hw : w.length ≤ 3) (hn : Lib.decFrom 0 (w.take i) = some n) : n < 1000 := by
  have h1 := Lib.decFrom_lt _ 0 n hn
  have h2 : (w.take i).length ≤ 3 := by rw [List.length_take]; omega
  have h3 : 10 ^ (w.take i).length ≤ 10 ^ 3 := Nat.pow_le_pow_right (by decide) h2
  omega
set_option maxHeartbeats 1600000 in
theorem c_spec_l6Number (w : List UInt8) (hw : w.length ≤ 1000000) : FnOK Tryz.prog 31 [dT w] (numR w) := by
  have hsz := tx_size w
  obtain ⟨V, hV⟩ : ∃ V, V = numW w := ⟨_, rfl⟩
  have hV2 : numR w = .tup [.one (.v (.int .i64 (V.getD 0))), .one (.v (.bool V.isSome))] := by rw [hV]; rfl
  rw [hV2]
  unfold numW at hV
  have hz : byteAt (tx w) (0 : Int) = ((w.getD 0 0).toNat : Int) := byteAt_tx w 0
  by_cases hA : w.length < 1
  · rw [if_pos (.inl hA)] at hV
    subst hV
    refine fn_of lv31 Tryz.func31 rfl rfl (by kernel_rfl) rfl ?_
    refine bsplit_of_true (decide_eq_true (show ((tx w).size : Int) < 1 by omega)) ?_
    repeat' (first | refine bsplit_true ?_ | refine bsplit_false ?_)
    exact ⟨⟨rfl, rfl, trivial⟩, rfl⟩
  by_cases hB : 3 < w.length
  · rw [if_pos (.inr (.inl hB))] at hV
    subst hV
    refine fn_of lv31 Tryz.func31 rfl rfl (by kernel_rfl) rfl ?_
    refine bsplit_of_false (decide_eq_false (show ¬ ((tx w).size : Int) < 1 by omega)) ?_
    repeat' (first | refine bsplit_true ?_ | refine bsplit_false ?_)
    refine bsplit_of_true (decide_eq_true (show ((tx w).size : Int) > 3 by omega)) ?_
    repeat' (first | refine bsplit_true ?_ | refine bsplit_false ?_)
    exact ⟨⟨rfl, rfl, trivial⟩, rfl⟩
  by_cases hC : 1 < w.length ∧ w.getD 0 0 = 48
  · rw [if_pos (.inr (.inr hC))] at hV
    subst hV
    refine fn_of lv31 Tryz.func31 rfl rfl (by kernel_rfl) rfl ?_
    refine bsplit_of_false (decide_eq_false (show ¬ ((tx w).size : Int) < 1 by omega)) ?_
    repeat' (first | refine bsplit_true ?_ | refine bsplit_false ?_)
    refine bsplit_of_false (decide_eq_false (show ¬ ((tx w).size : Int) > 3 by omega)) ?_
    repeat' (first | refine bsplit_true ?_ | refine bsplit_false ?_)
    refine bsplit_of_true (decide_eq_true (show ((tx w).size : Int) > 1 by omega)) ?_
    repeat' (first | refine bsplit_true ?_ | refine bsplit_false ?_)
    refine ask_intro ⟨by decide, by show (0 : Int) < ((tx w).size : Int); omega⟩ ?_
    repeat' (first | refine bsplit_true ?_ | refine bsplit_false ?_)
    refine bsplit_of_true (show (byteAt (tx w) (0 : Int) == 48) = true by rw [hz, hC.2]; rfl) ?_
    exact ⟨⟨rfl, rfl, trivial⟩, rfl⟩
  rw [if_neg (by rintro (h | h | h); exact hA h; exact hB h; exact hC h)] at hV
  have hJ : ∀ i n, Lib.decFrom 0 (w.take i) = some n → n < 1000 := fun i n h => dec_lt (by omega) h
  refine fn_of lv31 Tryz.func31 rfl rfl (by kernel_rfl) rfl ?_
  refine bsplit_of_false (decide_eq_false (show ¬ ((tx w).size : Int) < 1 by omega)) ?_
  repeat' (first | refine bsplit_true ?_ | refine bsplit_false ?_)
  refine bsplit_of_false (decide_eq_false (show ¬ ((tx w).size : Int) > 3 by omega)) ?_
  repeat' (first | refine bsplit_true ?_ | refine bsplit_false ?_)
  by_cases h1 : 1 < w.length
  · have h0 : w.getD 0 0 ≠ 48 := fun e => hC ⟨h1, e⟩
    refine bsplit_of_true (decide_eq_true (show ((tx w).size : Int) > 1 by omega)) ?_
    repeat' (first | refine bsplit_true ?_ | refine bsplit_false ?_)
    refine ask_intro ⟨by decide, by show (0 : Int) < ((tx w).size : Int); omega⟩ ?_
    repeat' (first | refine bsplit_true ?_ | refine bsplit_false ?_)
    refine bsplit_of_false (show (byteAt (tx w) (0 : Int) == 48) = false by rw [hz]; exact byte_eq.trans (decide_eq_false h0)) ?_
    refine ⟨{ x : Nat × Nat // x.1 ≤ w.length ∧ Lib.decFrom 0 (w.take x.1) = some x.2 }, fun x => ⟨frL [(0, dT w), (4, di x.1.2), (5, di x.1.1)], hpL [], 97, 0⟩, fun x => w.length - x.1.1, ⟨(0, 0), Nat.zero_le _, by rw [List.take_zero]; rfl⟩,
      le_of [] rfl rfl rfl rfl trivial (tellFr_v rfl rfl (tellFr_v rfl rfl (tellFr_v rfl rfl trivial))), ?_⟩
    rintro ⟨⟨i, n⟩, hi, hn⟩
    simp only at hi hn
    have hn1 := hJ i n hn
    by_cases h : i < w.length
    · have hby := byteAt_tx w i
      have hwi : IntKind.i64.wrap ((i : Int) + 1) = ((i + 1 : Nat) : Int) := wrap_i64 (i + 1) (by omega) (by omega)
      have hlt : (w.getD i 0).toNat < 256 := UInt8.toNat_lt _
      refine bsplit_of_true (decide_eq_true (show (i : Int) < ((tx w).size : Int) by omega)) ?_
      refine ask_intro ⟨by show (0 : Int) ≤ (i : Int); omega, by show (i : Int) < ((tx w).size : Int); omega⟩ ?_
      by_cases hd1 : (w.getD i 0).toNat < 48
      · rw [dec_none h (by omega)] at hV
        subst hV
        refine bsplit_of_true (decide_eq_true (show byteAt (tx w) (i : Int) < 48 by omega)) ?_
        repeat' (first | refine bsplit_true ?_ | refine bsplit_false ?_)
        exact ⟨⟨rfl, rfl, trivial⟩, rfl⟩
      refine bsplit_of_false (decide_eq_false (show ¬ byteAt (tx w) (i : Int) < 48 by omega)) ?_
      repeat' (first | refine bsplit_true ?_ | refine bsplit_false ?_)
      refine ask_intro ⟨by show (0 : Int) ≤ (i : Int); omega, by show (i : Int) < ((tx w).size : Int); omega⟩ ?_
      repeat' (first | refine bsplit_true ?_ | refine bsplit_false ?_)
      by_cases hd2 : 57 < (w.getD i 0).toNat
      · rw [dec_none h (by omega)] at hV
        subst hV
        refine bsplit_of_true (decide_eq_true (show byteAt (tx w) (i : Int) > 57 by omega)) ?_
        exact ⟨⟨rfl, rfl, trivial⟩, rfl⟩
      have hv : IntKind.i64.wrap (IntKind.i64.wrap ((n : Int) * 10) + IntKind.i64.wrap (IntKind.u8.wrap (byteAt (tx w) (i : Int) - 48))) = ((n * 10 + ((w.getD i 0).toNat - 48) : Nat) : Int) := by
        rw [hby, wrap_u8i _ (by omega) (by omega), wrap_i64 ((n : Int) * 10) (by omega) (by omega), wrap_i64 (((w.getD i 0).toNat : Int) - 48) (by omega) (by omega), wrap_i64 _ (by omega) (by omega)]
        omega
      refine bsplit_of_false (decide_eq_false (show ¬ byteAt (tx w) (i : Int) > 57 by omega)) ?_
      refine ask_intro ⟨by show (0 : Int) ≤ (i : Int); omega, by show (i : Int) < ((tx w).size : Int); omega⟩ ?_
      exact ⟨⟨(i + 1, n * 10 + ((w.getD i 0).toNat - 48)), by show i + 1 ≤ w.length; omega, dec_step h (by omega) (by omega) hn⟩,
        le_of [] rfl rfl rfl rfl trivial (tellFr_v rfl rfl (tellFr_v rfl (congrArg (Value.int .i64) hv) (tellFr_v rfl (congrArg (Value.int .i64) hwi) trivial))), by show w.length - (i + 1) < w.length - i; omega⟩
    · obtain rfl : i = w.length := by omega
      rw [List.take_length] at hn
      rw [hn] at hV
      subst hV
      refine bsplit_of_false (decide_eq_false (show ¬ ((w.length : Nat) : Int) < ((tx w).size : Int) by omega)) ?_
      exact ⟨⟨rfl, rfl, trivial⟩, rfl⟩
  · refine bsplit_of_false (decide_eq_false (show ¬ ((tx w).size : Int) > 1 by omega)) ?_
    repeat' (first | refine bsplit_true ?_ | refine bsplit_false ?_)
    refine ⟨{ x : Nat × Nat // x.1 ≤ w.length ∧ Lib.decFrom 0 (w.take x.1) = some x.2 }, fun x => ⟨frL [(0, dT w), (4, di x.1.2), (5, di x.1.1)], hpL [], 97, 0⟩, fun x => w.length - x.1.1, ⟨(0, 0), Nat.zero_le _, by rw [List.take_zero]; rfl⟩,
      le_of [] rfl rfl rfl rfl trivial (tellFr_v rfl rfl (tellFr_v rfl rfl (tellFr_v rfl rfl trivial))), ?_⟩
    rintro ⟨⟨i, n⟩, hi, hn⟩
    simp only at hi hn
    have hn1 := hJ i n hn
    by_cases h : i < w.length
    · have hby := byteAt_tx w i
      have hwi : IntKind.i64.wrap ((i : Int) + 1) = ((i + 1 : Nat) : Int) := wrap_i64 (i + 1) (by omega) (by omega)
      have hlt : (w.getD i 0).toNat < 256 := UInt8.toNat_lt _
      refine bsplit_of_true (decide_eq_true (show (i : Int) < ((tx w).size : Int) by omega)) ?_
      refine ask_intro ⟨by show (0 : Int) ≤ (i : Int); omega, by show (i : Int) < ((tx w).size : Int); omega⟩ ?_
      by_cases hd1 : (w.getD i 0).toNat < 48
      · rw [dec_none h (by omega)] at hV
        subst hV
        refine bsplit_of_true (decide_eq_true (show byteAt (tx w) (i : Int) < 48 by omega)) ?_
        repeat' (first | refine bsplit_true ?_ | refine bsplit_false ?_)
        exact ⟨⟨rfl, rfl, trivial⟩, rfl⟩
      refine bsplit_of_false (decide_eq_false (show ¬ byteAt (tx w) (i : Int) < 48 by omega)) ?_
      repeat' (first | refine bsplit_true ?_ | refine bsplit_false ?_)
      refine ask_intro ⟨by show (0 : Int) ≤ (i : Int); omega, by show (i : Int) < ((tx w).size : Int); omega⟩ ?_
      repeat' (first | refine bsplit_true ?_ | refine bsplit_false ?_)
      by_cases hd2 : 57 < (w.getD i 0).toNat
      · rw [dec_none h (by omega)] at hV
        subst hV
        refine bsplit_of_true (decide_eq_true (show byteAt (tx w) (i : Int) > 57 by omega)) ?_
        exact ⟨⟨rfl, rfl, trivial⟩, rfl⟩
      have hv : IntKind.i64.wrap (IntKind.i64.wrap ((n : Int) * 10) + IntKind.i64.wrap (IntKind.u8.wrap (byteAt (tx w) (i : Int) - 48))) = ((n * 10 + ((w.getD i 0).toNat - 48) : Nat) : Int) := by
        rw [hby, wrap_u8i _ (by omega) (by omega), wrap_i64 ((n : Int) * 10) (by omega) (by omega), wrap_i64 (((w.getD i 0).toNat : Int) - 48) (by omega) (by omega), wrap_i64 _ (by omega) (by omega)]
        omega
      refine bsplit_of_false (decide_eq_false (show ¬ byteAt (tx w) (i : Int) > 57 by omega)) ?_
      refine ask_intro ⟨by show (0 : Int) ≤ (i : Int); omega, by show (i : Int) < ((tx w).size : Int); omega⟩ ?_
      exact ⟨⟨(i + 1, n * 10 + ((w.getD i 0).toNat - 48)), by show i + 1 ≤ w.length; omega, dec_step h (by omega) (by omega) hn⟩,
        le_of [] rfl rfl rfl rfl trivial (tellFr_v rfl rfl (tellFr_v rfl (congrArg (Value.int .i64) hv) (tellFr_v rfl (congrArg (Value.int .i64) hwi) trivial))), by show w.length - (i + 1) < w.length - i; omega⟩
    · obtain rfl : i = w.length := by omega
      rw [List.take_length] at hn
      rw [hn] at hV
      subst hV
      refine bsplit_of_false (decide_eq_false (show ¬ ((w.length : Nat) : Int) < ((tx w).size : Int) by omega)) ?_
      exact ⟨⟨rfl, rfl, trivial⟩, rfl⟩
end Go.Proofs.YtojaakpnpdnbhaaGreatDoor.L

/- What is wrong with a policy: lanes, bells, the plan: contracts. -/
set_option linter.unusedVariables false
set_option linter.unusedSimpArgs false
set_option maxRecDepth 100000
namespace Go.Proofs.YtojaakpnpdnbhaaGreatDoor.L
open Go.RowKit
def sitsB (l : LaneM) (g p : Int) : Bool := (l.frm == g && l.af == p) || (l.to == g && l.at_ == p)
theorem c_spec_l6At (l : LaneM) (g p : Int) : FnOK Tryz.prog 67 [laneLV l, di g, di p] (rb (sitsB l g p)) := by
  generalize hv : sitsB l g p = v
  unfold sitsB at hv
  refine fn_of lv67 Tryz.func67 rfl rfl (by kernel_rfl) rfl ?_
  repeat' (first | refine bsplit_true ?_ | refine bsplit_false ?_ | refine bsplit_intro (fun h => ?_) (fun h => ?_))
  all_goals refine ⟨⟨congrArg Value.bool ?_, trivial⟩, rfl⟩
  all_goals simp_all
theorem c_impl_sits (l : LaneM) (g p : Int) : FnOK Tryz.prog 78 [laneLV l, di g, di p] (rb (sitsB l g p)) := by
  generalize hv : sitsB l g p = v
  unfold sitsB at hv
  refine fn_of lv78 Tryz.func78 rfl rfl (by kernel_rfl) rfl ?_
  repeat' (first | refine bsplit_true ?_ | refine bsplit_false ?_ | refine bsplit_intro (fun h => ?_) (fun h => ?_))
  all_goals refine ⟨⟨congrArg Value.bool ?_, trivial⟩, rfl⟩
  all_goals simp_all
def clash (m x : LaneM) : Bool := x.page == m.page || (sitsB x m.frm m.af || sitsB x m.to m.at_)
theorem c_impl_laneFault_1 (m x : LaneM) : FnOK Tryz.prog 77 [laneLV x, .dptr (laneD m)] (rb (clash m x)) := by
  have c1 := c_impl_sits x m.frm m.af
  have c2 := c_impl_sits x m.to m.at_
  generalize hv : clash m x = v
  unfold clash at hv
  refine fn_of lv77 Tryz.func77 rfl rfl (by kernel_rfl) rfl ?_
  repeat' (first | refine bsplit_true ?_ | refine bsplit_false ?_ | refine .inl ⟨_, _, rfl, c1, rfl, ?_⟩ | refine .inl ⟨_, _, rfl, c2, rfl, ?_⟩ | refine bsplit_intro (fun h => ?_) (fun h => ?_))
  all_goals refine ⟨⟨congrArg Value.bool ?_, trivial⟩, rfl⟩
  all_goals simp_all
theorem c_slices_ContainsFunc_Lane (m : LaneM) (l : List LaneM) (hl : l.length ≤ 4611686018427387904) : FnOK Tryz.prog 76 [.d (lanes l), .fn 77 [.dptr (laneD m)]] (rb (l.any (clash m))) := by
  refine fn_of lv76 Tryz.func76 rfl rfl (by kernel_rfl) rfl ?_
  refine .inl ⟨_, _, rfl, c_slices_IndexFunc_Lane 77 m (clash m) (c_impl_laneFault_1 m) l hl, rfl, ?_⟩
  exact ⟨⟨congrArg Value.bool (idxG_any l _), trivial⟩, rfl⟩
def laneBad (own : List (List Int)) (m : LaneM) (ahead : List LaneM) : Int := if endsF own.length m.frm m.to = 0 then (bif !inR m.page 0 23 || (!inR m.af 5 6 || !inR m.at_ 5 6) then 3 else bif decide (ownerP own m.page ≥ 0) || ahead.any (clash m) then 6 else 0) else endsF own.length m.frm m.to
theorem c_impl_laneFault (x : PolM) (hs : x.small) (m : LaneM) (ahead : List LaneM) (hl : ahead.length ≤ 4611686018427387904) : FnOK Tryz.prog 42 [polP x, laneLV m, .d (lanes ahead)] (ri (laneBad x.own m ahead)) := by
  have c1 := c_impl_linkFault x hs m.frm m.to
  have c2 := c_impl_within m.page 0 23
  have c3 := c_impl_within m.af 5 6
  have c4 := c_impl_within m.at_ 5 6
  have c5 := c_impl_owner x hs m.page
  have c6 := c_slices_ContainsFunc_Lane m ahead hl
  generalize hv : laneBad x.own m ahead = v
  unfold laneBad at hv
  generalize endsF x.own.length m.frm m.to = e at *
  generalize ownerP x.own m.page = o at *
  refine fn_of lv42 Tryz.func42 rfl rfl (by kernel_rfl) rfl ?_
  refine .inl ⟨_, _, rfl, c1, rfl, ?_⟩
  refine bsplit_intro (fun h => ?_) (fun h => ?_)
  · rw [if_neg (by simpa using h)] at hv
    exact ⟨⟨congrArg (Value.int .i64) hv, trivial⟩, rfl⟩
  rw [if_pos (by simpa using h)] at hv
  refine .inl ⟨_, _, rfl, c2, rfl, ?_⟩
  repeat' (first | refine bsplit_true ?_ | refine bsplit_false ?_ | refine .inl ⟨_, _, rfl, c3, rfl, ?_⟩ | refine .inl ⟨_, _, rfl, c4, rfl, ?_⟩ | refine .inl ⟨_, _, rfl, c5, rfl, ?_⟩ | refine .inl ⟨_, _, rfl, c6, rfl, ?_⟩ | refine bsplit_intro (fun h => ?_) (fun h => ?_))
  all_goals refine ⟨⟨congrArg (Value.int .i64) ?_, trivial⟩, rfl⟩
  all_goals simp_all
def bellBad (n : Nat) (b : BellM) (ahead : List BellM) : Int := if endsF n b.frm b.to = 0 then (bif ahead.any (fun a => a == b) then 6 else 0) else endsF n b.frm b.to
theorem c_impl_bellFault (x : PolM) (hs : x.small) (b : BellM) (ahead : List BellM) (hl : ahead.length ≤ 4611686018427387904) : FnOK Tryz.prog 43 [polP x, bellLV b, .d (bells ahead)] (ri (bellBad x.own.length b ahead)) := by
  have c1 := c_impl_linkFault x hs b.frm b.to
  have c2 := c_slices_Contains_Bell ahead b hl
  generalize hv : bellBad x.own.length b ahead = v
  unfold bellBad at hv
  generalize endsF x.own.length b.frm b.to = e at *
  refine fn_of lv43 Tryz.func43 rfl rfl (by kernel_rfl) rfl ?_
  refine .inl ⟨_, _, rfl, c1, rfl, ?_⟩
  refine bsplit_intro (fun h => ?_) (fun h => ?_)
  · rw [if_neg (by simpa using h)] at hv
    exact ⟨⟨congrArg (Value.int .i64) hv, trivial⟩, rfl⟩
  rw [if_pos (by simpa using h)] at hv
  refine .inl ⟨_, _, rfl, c2, rfl, ?_⟩
  refine bsplit_intro (fun h => ?_) (fun h => ?_)
  all_goals refine ⟨⟨congrArg (Value.int .i64) ?_, trivial⟩, rfl⟩
  all_goals simp_all
def slotBad (n : Nat) (s : SlotM) : Int := bif !guestB n s.guest then 4 else bif !inR s.steps 1 50 then 3 else 0
def planBad (n : Nat) (l : List SlotM) : Int := bif !inR l.length 1 8 then 2 else firstNZ (l.map (slotBad n))
theorem c_impl_planFault (x : PolM) (hs : x.small) : FnOK Tryz.prog 44 [polP x] (ri (planBad x.own.length x.pln)) := by
  have hl := hs.pln
  generalize hv : planBad x.own.length x.pln = v
  unfold planBad at hv
  refine fn_of lv44 Tryz.func44 rfl rfl (by kernel_rfl) rfl ?_
  refine .inl ⟨_, _, rfl, c_impl_within (x.pln.length : Int) 1 8, rfl, ?_⟩
  refine bsplit_intro (fun h => ?_) (fun h => ?_)
  · rw [show (!inR (x.pln.length : Int) 1 8) = true from h, cond_true] at hv
    exact ⟨⟨congrArg (Value.int .i64) hv, trivial⟩, rfl⟩
  rw [show (!inR (x.pln.length : Int) 1 8) = false from h, cond_false] at hv
  refine ⟨{ i : Nat // i ≤ x.pln.length ∧ firstNZ ((x.pln.drop i).map (slotBad x.own.length)) = v }, fun i => ⟨frL [(0, polP x), (15, .d (slots x.pln)), (16, di x.pln.length), (17, di i.1)], hpL [], 0, 0⟩, fun i => x.pln.length - i.1, ⟨0, by omega, hv⟩,
    le_of [] rfl rfl rfl rfl trivial (tellFr_x rfl ⟨DLe.refl _, DLe.refl _, DLe.refl _, DLe.refl _, trivial⟩ (tellFr_d rfl (DLe.refl _) (tellFr_v rfl rfl (tellFr_v rfl rfl trivial)))), ?_⟩
  rintro ⟨i, hi, hall⟩
  by_cases h1 : i < x.pln.length
  · rw [map_drop ⟨0, 0⟩ _ _ _ h1] at hall
    refine bsplit_of_true (decide_eq_true (by show (i : Int) < (x.pln.length : Int); omega)) ?_
    refine ask_intro ⟨by omega, by simp; omega, rfl⟩ ?_
    refine .inl ⟨_, _, rfl, c_impl_isGuest x hs (x.pln.getD i ⟨0, 0⟩).guest, rfl, ?_⟩
    refine bsplit_intro (fun h2 => ?_) (fun h2 => ?_)
    · have e : slotBad x.own.length (x.pln.getD i ⟨0, 0⟩) = 4 := by
        unfold slotBad
        rw [show (!guestB x.own.length (x.pln.getD i ⟨0, 0⟩).guest) = true from h2]; rfl
      rw [e] at hall
      exact ⟨⟨congrArg (Value.int .i64) hall, trivial⟩, rfl⟩
    refine .inl ⟨_, _, rfl, c_impl_within (x.pln.getD i ⟨0, 0⟩).steps 1 50, rfl, ?_⟩
    refine bsplit_intro (fun h3 => ?_) (fun h3 => ?_)
    · have e : slotBad x.own.length (x.pln.getD i ⟨0, 0⟩) = 3 := by
        unfold slotBad
        rw [show (!guestB x.own.length (x.pln.getD i ⟨0, 0⟩).guest) = false from h2, show (!inR (x.pln.getD i ⟨0, 0⟩).steps 1 50) = true from h3]; rfl
      rw [e] at hall
      exact ⟨⟨congrArg (Value.int .i64) hall, trivial⟩, rfl⟩
    have e : slotBad x.own.length (x.pln.getD i ⟨0, 0⟩) = 0 := by
      unfold slotBad
      rw [show (!guestB x.own.length (x.pln.getD i ⟨0, 0⟩).guest) = false from h2, show (!inR (x.pln.getD i ⟨0, 0⟩).steps 1 50) = false from h3]; rfl
    rw [e] at hall
    exact ⟨⟨i + 1, by omega, hall⟩, le_of [] rfl rfl rfl rfl trivial (tellFr_x rfl ⟨DLe.refl _, DLe.refl _, DLe.refl _, DLe.refl _, trivial⟩ (tellFr_d rfl (DLe.refl _) (tellFr_v rfl rfl (tellFr_v rfl (congrArg (Value.int .i64) (wrap1 h1 (by omega))) trivial)))), by show x.pln.length - (i + 1) < x.pln.length - i; omega⟩
  · rw [List.drop_eq_nil_of_le (by omega)] at hall
    refine bsplit_of_false (decide_eq_false (by show ¬ (i : Int) < (x.pln.length : Int); omega)) ?_
    exact ⟨⟨congrArg (Value.int .i64) hall, trivial⟩, rfl⟩
end Go.Proofs.YtojaakpnpdnbhaaGreatDoor.L

/- What is wrong with a policy: what is owned, the whole: contracts of the program. -/
set_option linter.unusedVariables false
set_option linter.unusedSimpArgs false
set_option maxRecDepth 100000
namespace Go.Proofs.YtojaakpnpdnbhaaGreatDoor.L
open Go.RowKit
theorem mapT : MapT Tryz.prog 105 := by
  have h : (Tryz.prog.info? 4).bind (fun i => i.zero) = some (.bool false) := by kernel_rfl
  cases hi : Tryz.prog.info? 4 with
  | none => rw [hi] at h; simp at h
  | some i =>
    rw [hi] at h
    exact ⟨2, 4, i, by kernel_rfl, by kernel_rfl, hi, by simpa using h⟩
abbrev in23 (a : Int) : Bool := inR a 0 23
def rowBad (r : List Int) : Int := bif !inR r.length 1 5 then 2 else bif !r.all in23 then 3 else 0
def dupS : List Int → List Int → Bool
  | _, [] => false
  | S, x :: r => hasI S x || dupS (S ++ [x]) r
def ownBad (l : List (List Int)) : Int := bif !inR l.length 1 3 then 2 else if firstNZ (l.map rowBad) = 0 then (bif dupS [] l.flatten then 6 else 0) else firstNZ (l.map rowBad)
theorem flat_drop (l : List (List Int)) (i : Nat) (h : i < l.length) : (l.drop i).flatten = l.getD i [] ++ (l.drop (i + 1)).flatten := by
  rw [drop_consG [] l i h, List.flatten_cons]
theorem dup_step (S : List Int) (r : List Int) (k : Nat) (h : k < r.length) (rest : List Int) : dupS S (r.drop k ++ rest) = (hasI S (r.getD k 0) || dupS (S ++ [r.getD k 0]) (r.drop (k + 1) ++ rest)) := by
  rw [drop_consG 0 r k h]; rfl
theorem hasI_snoc (S : List Int) (x n : Int) : (if n = x then true else hasI S n) = hasI (S ++ [x]) n := by
  simp only [hasI, List.any_append, List.any_cons, List.any_nil, Bool.or_false]
  by_cases h : n = x
  · subst h; simp
  · rw [if_neg h, beq_eq_false_iff_ne.2 (Ne.symm h), Bool.or_false]
theorem c_impl_ownFault (x : PolM) (hs : x.small) : FnOK Tryz.prog 41 [polP x] (ri (ownBad x.own)) := by
  have hl := hs.own
  have h0 := hs.ins
  generalize hv : ownBad x.own = v
  unfold ownBad at hv
  generalize hc : firstNZ (x.own.map rowBad) = c at hv
  generalize hd : dupS [] x.own.flatten = d at hv
  refine fn_of lv41 Tryz.func41 rfl rfl (by kernel_rfl) rfl ?_
  refine .inl ⟨_, _, rfl, c_impl_within (x.own.length : Int) 1 3, rfl, ?_⟩
  refine bsplit_intro (fun h => ?_) (fun h => ?_)
  · rw [show (!inR (x.own.length : Int) 1 3) = true from h, cond_true] at hv
    exact ⟨⟨congrArg (Value.int .i64) hv, trivial⟩, rfl⟩
  rw [show (!inR (x.own.length : Int) 1 3) = false from h, cond_false] at hv
  refine ask_intro trivial ?_
  refine ⟨{ p : Nat × List Int × Bool // p.1 ≤ x.own.length ∧ firstNZ ((x.own.drop p.1).map rowBad) = c ∧ (p.2.2 || dupS p.2.1 (x.own.drop p.1).flatten) = d },
    fun p => ⟨frL [(3, .mp 64), (4, dv (.bool p.1.2.2)), (20, .d (owns x.own)), (21, di x.own.length), (22, di p.1.1)], hpL [(64, .map 105 (fun n => hasI p.1.2.1 n))], 96, 0⟩, fun p => x.own.length - p.1.1, ⟨(0, [], false), by omega, hc, hd⟩,
    le_of [(64, 8192)] rfl rfl rfl rfl (tellHp_map rfl rfl (fun n => rfl) tellHp_nil) (tellFr_mp rfl rfl (tellFr_v rfl rfl (tellFr_d rfl (DLe.refl _) (tellFr_v rfl rfl (tellFr_v rfl rfl trivial))))), ?_⟩
  rintro ⟨⟨i, S, tw⟩, hi, hall, hdup⟩
  simp only at hi hall hdup
  by_cases h1 : i < x.own.length
  · rw [map_drop [] _ _ _ h1] at hall
    rw [flat_drop _ _ h1] at hdup
    have hrl := h0 i h1
    generalize hb : rowBad (x.own.getD i []) = b at hall
    unfold rowBad at hb
    refine bsplit_of_true (decide_eq_true (by show (i : Int) < (x.own.length : Int); omega)) ?_
    refine ask_intro ⟨by omega, by simp; omega, rfl⟩ ?_
    refine .inl ⟨_, _, rfl, c_impl_within ((x.own.getD i []).length : Int) 1 5, rfl, ?_⟩
    refine bsplit_intro (fun h2 => ?_) (fun h2 => ?_)
    · rw [show (!inR ((x.own.getD i []).length : Int) 1 5) = true from h2, cond_true] at hb
      subst hb
      have hall : (2 : Int) = c := hall
      rw [if_neg (by omega), ← hall] at hv
      exact ⟨⟨congrArg (Value.int .i64) hv, trivial⟩, rfl⟩
    rw [show (!inR ((x.own.getD i []).length : Int) 1 5) = false from h2, cond_false] at hb
    refine ⟨{ p : Nat × List Int × Bool // p.1 ≤ (x.own.getD i []).length ∧ ((x.own.getD i []).drop p.1).all in23 = (x.own.getD i []).all in23 ∧ (p.2.2 || dupS p.2.1 ((x.own.getD i []).drop p.1 ++ (x.own.drop (i + 1)).flatten)) = d },
      fun p => ⟨frL [(3, .mp 64), (4, dv (.bool p.1.2.2)), (20, .d (owns x.own)), (21, di x.own.length), (22, di i), (30, .d (ints (x.own.getD i []))), (31, di (x.own.getD i []).length), (32, di p.1.1)], hpL [(64, .map 105 (fun n => hasI p.1.2.1 n))], 96, 0⟩, fun p => (x.own.getD i []).length - p.1.1, ⟨(0, S, tw), by omega, by simp, hdup⟩,
      le_of [(64, 64)] rfl rfl rfl rfl (tellHp_map rfl rfl (fun n => rfl) tellHp_nil) (tellFr_mp rfl rfl (tellFr_v rfl rfl (tellFr_d rfl (DLe.refl _) (tellFr_v rfl rfl (tellFr_v rfl rfl (tellFr_d rfl (DLe.refl _) (tellFr_v rfl rfl (tellFr_v rfl rfl trivial)))))))), ?_⟩
    rintro ⟨⟨k, S2, tw2⟩, hk, hall2, hdup2⟩
    simp only at hk hall2 hdup2
    by_cases h3 : k < (x.own.getD i []).length
    · rw [drop_all _ in23 k h3] at hall2
      rw [dup_step S2 _ k h3] at hdup2
      refine bsplit_of_true (decide_eq_true (by show (k : Int) < ((x.own.getD i []).length : Int); omega)) ?_
      refine ask_intro ⟨by omega, by show (k : Int) < ((x.own.getD i []).length : Int); omega, rfl⟩ ?_
      refine .inl ⟨_, _, rfl, c_impl_within ((x.own.getD i []).getD k 0) 0 23, rfl, ?_⟩
      refine bsplit_intro (fun h4 => ?_) (fun h4 => ?_)
      · have h4 : in23 ((x.own.getD i []).getD k 0) = false := by simpa using h4
        rw [h4, Bool.false_and] at hall2
        rw [← hall2] at hb
        subst hb
        have hall : (3 : Int) = c := hall
        rw [if_neg (by omega), ← hall] at hv
        exact ⟨⟨congrArg (Value.int .i64) hv, trivial⟩, rfl⟩
      have h4 : in23 ((x.own.getD i []).getD k 0) = true := by simpa using h4
      rw [h4, Bool.true_and] at hall2
      refine bsplit_intro (fun h5 => ?_) (fun h5 => ?_)
      · have h5 : tw2 = true := h5
        rw [h5, Bool.true_or] at hdup2
        repeat' (first | refine bsplit_true ?_ | refine bsplit_false ?_)
        refine ask_intro mapT ?_
        refine ⟨⟨(k + 1, S2 ++ [(x.own.getD i []).getD k 0], true), by show k + 1 ≤ _; omega, hall2, by simp only [Bool.true_or]; exact hdup2⟩, le_of [(64, 64)] rfl rfl rfl rfl (tellHp_map rfl rfl (fun n => hasI_snoc S2 _ n) tellHp_nil) (tellFr_mp rfl rfl (tellFr_v rfl rfl (tellFr_d rfl (DLe.refl _) (tellFr_v rfl rfl (tellFr_v rfl rfl (tellFr_d rfl (DLe.refl _) (tellFr_v rfl rfl (tellFr_v rfl (congrArg (Value.int .i64) (wrap1 h3 (by omega))) trivial)))))))), by show (x.own.getD i []).length - (k + 1) < (x.own.getD i []).length - k; omega⟩
      · have h5 : tw2 = false := h5
        rw [h5, Bool.false_or] at hdup2
        repeat' (first | refine bsplit_true ?_ | refine bsplit_false ?_)
        refine ask_intro mapT ?_
        repeat' (first | refine bsplit_true ?_ | refine bsplit_false ?_)
        refine ask_intro mapT ?_
        refine ⟨⟨(k + 1, S2 ++ [(x.own.getD i []).getD k 0], hasI S2 ((x.own.getD i []).getD k 0)), by show k + 1 ≤ _; omega, hall2, hdup2⟩, le_of [(64, 64)] rfl rfl rfl rfl (tellHp_map rfl rfl (fun n => hasI_snoc S2 _ n) tellHp_nil) (tellFr_mp rfl rfl (tellFr_v rfl rfl (tellFr_d rfl (DLe.refl _) (tellFr_v rfl rfl (tellFr_v rfl rfl (tellFr_d rfl (DLe.refl _) (tellFr_v rfl rfl (tellFr_v rfl (congrArg (Value.int .i64) (wrap1 h3 (by omega))) trivial)))))))), by show (x.own.getD i []).length - (k + 1) < (x.own.getD i []).length - k; omega⟩
    · rw [List.drop_eq_nil_of_le (by omega)] at hall2 hdup2
      have hall2 : true = (x.own.getD i []).all in23 := hall2
      rw [← hall2] at hb
      subst hb
      have hall : firstNZ ((x.own.drop (i + 1)).map rowBad) = c := hall
      refine bsplit_of_false (decide_eq_false (by show ¬ (k : Int) < ((x.own.getD i []).length : Int); omega)) ?_
      refine ⟨⟨(i + 1, S2, tw2), by show i + 1 ≤ _; omega, hall, hdup2⟩, le_of [(64, 64)] rfl rfl rfl rfl (tellHp_map rfl rfl (fun n => rfl) tellHp_nil) (tellFr_mp rfl rfl (tellFr_v rfl rfl (tellFr_d rfl (DLe.refl _) (tellFr_v rfl rfl (tellFr_v rfl (congrArg (Value.int .i64) (wrap1 h1 (by omega))) trivial))))), by show x.own.length - (i + 1) < x.own.length - i; omega⟩
  · rw [List.drop_eq_nil_of_le (by omega)] at hall hdup
    have hall : 0 = c := hall
    have hdup : (tw || false) = d := hdup
    rw [Bool.or_false] at hdup
    rw [if_pos hall.symm] at hv
    refine bsplit_of_false (decide_eq_false (by show ¬ (i : Int) < (x.own.length : Int); omega)) ?_
    refine bsplit_intro (fun h2 => ?_) (fun h2 => ?_)
    · have h2 : tw = true := h2
      rw [← hdup, h2] at hv
      exact ⟨⟨congrArg (Value.int .i64) hv, trivial⟩, rfl⟩
    · have h2 : tw = false := h2
      rw [← hdup, h2] at hv
      exact ⟨⟨congrArg (Value.int .i64) hv, trivial⟩, rfl⟩
def lanesBad (own : List (List Int)) : List LaneM → List LaneM → Int
  | _, [] => 0
  | ahead, m :: r => if laneBad own m ahead = 0 then lanesBad own (ahead ++ [m]) r else laneBad own m ahead
def bellsBad (n : Nat) : List BellM → List BellM → Int
  | _, [] => 0
  | ahead, m :: r => if bellBad n m ahead = 0 then bellsBad n (ahead ++ [m]) r else bellBad n m ahead
def polFault (x : PolM) : Int := if ownBad x.own = 0 then (bif decide (x.lns.length > 4) || decide (x.bls.length > 4) then 2 else if lanesBad x.own [] x.lns = 0 then (if bellsBad x.own.length [] x.bls = 0 then planBad x.own.length x.pln else bellsBad x.own.length [] x.bls) else lanesBad x.own [] x.lns) else ownBad x.own
theorem take_snoc {α : Type} (d : α) (l : List α) (i : Nat) (h : i < l.length) : l.take (i + 1) = l.take i ++ [l.getD i d] := by
  rw [List.take_succ_eq_append_getElem h, getD_at d h]
theorem lanes_step (own : List (List Int)) (l : List LaneM) (i : Nat) (h : i < l.length) : lanesBad own (l.take i) (l.drop i) = if laneBad own (l.getD i ⟨0, 0, 0, 0, 0⟩) (l.take i) = 0 then lanesBad own (l.take (i + 1)) (l.drop (i + 1)) else laneBad own (l.getD i ⟨0, 0, 0, 0, 0⟩) (l.take i) := by
  rw [take_snoc ⟨0, 0, 0, 0, 0⟩ l i h, drop_consG ⟨0, 0, 0, 0, 0⟩ l i h]; rfl
theorem bells_step (n : Nat) (l : List BellM) (i : Nat) (h : i < l.length) : bellsBad n (l.take i) (l.drop i) = if bellBad n (l.getD i ⟨0, 0⟩) (l.take i) = 0 then bellsBad n (l.take (i + 1)) (l.drop (i + 1)) else bellBad n (l.getD i ⟨0, 0⟩) (l.take i) := by
  rw [take_snoc ⟨0, 0⟩ l i h, drop_consG ⟨0, 0⟩ l i h]; rfl
theorem cut_lanes (l : List LaneM) (i : Nat) (h : i ≤ l.length) : LVLe (.d (.l ((i : Int) - 0).toNat (cutF none 0 (lanesF l)))) (.d (lanes (l.take i))) := LVLe.d (DLe.l (by simp; omega) (fun j hj => by
  have hj : j < i := by simpa using hj
  show laneD (l.getD j _) = laneD ((l.take i).getD j _)
  simp [List.getD, List.getElem?_take, hj]))
theorem cut_bells (l : List BellM) (i : Nat) (h : i ≤ l.length) : LVLe (.d (.l ((i : Int) - 0).toNat (cutF none 0 (bellsF l)))) (.d (bells (l.take i))) := LVLe.d (DLe.l (by simp; omega) (fun j hj => by
  have hj : j < i := by simpa using hj
  show bellD (l.getD j _) = bellD ((l.take i).getD j _)
  simp [List.getD, List.getElem?_take, hj]))
theorem c_impl_PolicyFault (x : PolM) (hs : x.small) : FnOK Tryz.prog 21 [polLV x] (ri (polFault x)) := by
  have hl := hs.lns
  have hb := hs.bls
  have c1 := c_impl_ownFault x hs
  have c2 := c_impl_planFault x hs
  generalize hv : polFault x = v
  unfold polFault at hv
  generalize ownBad x.own = e at *
  generalize planBad x.own.length x.pln = pb at *
  refine fn_of lv21 Tryz.func21 rfl rfl (by kernel_rfl) rfl ?_
  refine .inl ⟨_, _, rfl, c1, rfl, ?_⟩
  refine bsplit_intro (fun h => ?_) (fun h => ?_)
  · rw [if_neg (by simpa using h)] at hv
    exact ⟨⟨congrArg (Value.int .i64) hv, trivial⟩, rfl⟩
  rw [if_pos (by simpa using h)] at hv
  refine bsplit_intro (fun h1 => ?_) (fun h1 => ?_)
  · repeat' (first | refine bsplit_true ?_ | refine bsplit_false ?_)
    have h1 : decide ((x.lns.length : Int) > 4) = true := h1
    rw [show decide (x.lns.length > 4) = true from decide_eq_true (by have := of_decide_eq_true h1; omega), Bool.true_or, cond_true] at hv
    exact ⟨⟨congrArg (Value.int .i64) hv, trivial⟩, rfl⟩
  have h1 : decide ((x.lns.length : Int) > 4) = false := h1
  rw [show decide (x.lns.length > 4) = false from decide_eq_false (by have := of_decide_eq_false h1; omega), Bool.false_or] at hv
  repeat' (first | refine bsplit_true ?_ | refine bsplit_false ?_)
  refine bsplit_intro (fun h2 => ?_) (fun h2 => ?_)
  · have h2 : decide ((x.bls.length : Int) > 4) = true := h2
    rw [show decide (x.bls.length > 4) = true from decide_eq_true (by have := of_decide_eq_true h2; omega), cond_true] at hv
    exact ⟨⟨congrArg (Value.int .i64) hv, trivial⟩, rfl⟩
  have h2 : decide ((x.bls.length : Int) > 4) = false := h2
  rw [show decide (x.bls.length > 4) = false from decide_eq_false (by have := of_decide_eq_false h2; omega), cond_false] at hv
  generalize hlc : lanesBad x.own [] x.lns = lc at hv
  generalize hbc : bellsBad x.own.length [] x.bls = bc at hv
  refine ⟨{ i : Nat // i ≤ x.lns.length ∧ lanesBad x.own (x.lns.take i) (x.lns.drop i) = lc }, fun i => ⟨frL [(1, .ptr 64 0), (25, .d (lanes x.lns)), (26, di x.lns.length), (27, di i.1)], hpL [(64, .box 27 [.d (owns x.own), .d (lanes x.lns), .d (bells x.bls), .d (slots x.pln)])], 96, 0⟩, fun i => x.lns.length - i.1, ⟨0, by omega, hlc⟩,
    le_of [(64, 0)] rfl rfl rfl rfl (tellHp_box rfl rfl ⟨DLe.refl _, DLe.refl _, DLe.refl _, DLe.refl _, trivial⟩ tellHp_nil) (tellFr_ptr rfl rfl (tellFr_d rfl (DLe.refl _) (tellFr_v rfl rfl (tellFr_v rfl rfl trivial)))), ?_⟩
  rintro ⟨i, hi, hall⟩
  by_cases h3 : i < x.lns.length
  · rw [lanes_step _ _ _ h3] at hall
    have c3 := (c_impl_laneFault x hs (x.lns.getD i ⟨0, 0, 0, 0, 0⟩) (x.lns.take i) (by rw [List.length_take]; omega)).weak (xs := [polP x, laneLV (x.lns.getD i ⟨0, 0, 0, 0, 0⟩), .d (.l ((i : Int) - 0).toNat (cutF none 0 (lanesF x.lns)))]) ⟨LVLe.refl _, LVLe.refl _, cut_lanes x.lns i hi, trivial⟩
    generalize laneBad x.own (x.lns.getD i ⟨0, 0, 0, 0, 0⟩) (x.lns.take i) = lb at hall c3
    refine bsplit_of_true (decide_eq_true (by show (i : Int) < (x.lns.length : Int); omega)) ?_
    refine ask_intro ⟨by omega, by show (i : Int) < (x.lns.length : Int); omega, rfl⟩ ?_
    refine ask_intro ⟨by omega, by show (0 : Int) ≤ i; omega, by show (i : Int) ≤ (x.lns.length : Int); omega, .inl rfl⟩ ?_
    refine .inl ⟨_, _, rfl, c3, rfl, ?_⟩
    refine chk_intro (by kernel_rfl) ?_
    refine bsplit_intro (fun h4 => ?_) (fun h4 => ?_)
    · have h4 : ¬ lb = 0 := by simpa using h4
      rw [if_neg h4] at hall
      rw [if_neg (by omega), ← hall] at hv
      exact ⟨⟨congrArg (Value.int .i64) hv, trivial⟩, rfl⟩
    · have h4 : lb = 0 := by simpa using h4
      rw [if_pos h4] at hall
      refine ⟨⟨i + 1, by omega, hall⟩, le_of [(64, 64)] rfl rfl rfl rfl (tellHp_box rfl rfl ⟨DLe.refl _, DLe.refl _, DLe.refl _, DLe.refl _, trivial⟩ tellHp_nil) (tellFr_ptr rfl rfl (tellFr_d rfl (DLe.refl _) (tellFr_v rfl rfl (tellFr_v rfl (congrArg (Value.int .i64) (wrap1 h3 (by omega))) trivial)))), by show x.lns.length - (i + 1) < x.lns.length - i; omega⟩
  rw [List.drop_eq_nil_of_le (by omega)] at hall
  have hall : 0 = lc := hall
  rw [if_pos hall.symm] at hv
  refine bsplit_of_false (decide_eq_false (by show ¬ (i : Int) < (x.lns.length : Int); omega)) ?_
  refine ⟨{ i : Nat // i ≤ x.bls.length ∧ bellsBad x.own.length (x.bls.take i) (x.bls.drop i) = bc }, fun i => ⟨frL [(1, .ptr 64 0), (43, .d (bells x.bls)), (44, di x.bls.length), (45, di i.1)], hpL [(64, .box 27 [.d (owns x.own), .d (lanes x.lns), .d (bells x.bls), .d (slots x.pln)])], 96, 0⟩, fun i => x.bls.length - i.1, ⟨0, by omega, hbc⟩,
    le_of [(64, 64)] rfl rfl rfl rfl (tellHp_box rfl rfl ⟨DLe.refl _, DLe.refl _, DLe.refl _, DLe.refl _, trivial⟩ tellHp_nil) (tellFr_ptr rfl rfl (tellFr_d rfl (DLe.refl _) (tellFr_v rfl rfl (tellFr_v rfl rfl trivial)))), ?_⟩
  rintro ⟨k, hk, hall2⟩
  by_cases h3 : k < x.bls.length
  · rw [bells_step _ _ _ h3] at hall2
    have c3 := (c_impl_bellFault x hs (x.bls.getD k ⟨0, 0⟩) (x.bls.take k) (by rw [List.length_take]; omega)).weak (xs := [polP x, bellLV (x.bls.getD k ⟨0, 0⟩), .d (.l ((k : Int) - 0).toNat (cutF none 0 (bellsF x.bls)))]) ⟨LVLe.refl _, LVLe.refl _, cut_bells x.bls k hk, trivial⟩
    generalize bellBad x.own.length (x.bls.getD k ⟨0, 0⟩) (x.bls.take k) = lb at hall2 c3
    refine bsplit_of_true (decide_eq_true (by show (k : Int) < (x.bls.length : Int); omega)) ?_
    refine ask_intro ⟨by omega, by show (k : Int) < (x.bls.length : Int); omega, rfl⟩ ?_
    refine ask_intro ⟨by omega, by show (0 : Int) ≤ k; omega, by show (k : Int) ≤ (x.bls.length : Int); omega, .inl rfl⟩ ?_
    refine .inl ⟨_, _, rfl, c3, rfl, ?_⟩
    refine chk_intro (by kernel_rfl) ?_
    refine bsplit_intro (fun h4 => ?_) (fun h4 => ?_)
    · have h4 : ¬ lb = 0 := by simpa using h4
      rw [if_neg h4] at hall2
      rw [if_neg (by omega), ← hall2] at hv
      exact ⟨⟨congrArg (Value.int .i64) hv, trivial⟩, rfl⟩
    · have h4 : lb = 0 := by simpa using h4
      rw [if_pos h4] at hall2
      refine ⟨⟨k + 1, by omega, hall2⟩, le_of [(64, 64)] rfl rfl rfl rfl (tellHp_box rfl rfl ⟨DLe.refl _, DLe.refl _, DLe.refl _, DLe.refl _, trivial⟩ tellHp_nil) (tellFr_ptr rfl rfl (tellFr_d rfl (DLe.refl _) (tellFr_v rfl rfl (tellFr_v rfl (congrArg (Value.int .i64) (wrap1 h3 (by omega))) trivial)))), by show x.bls.length - (k + 1) < x.bls.length - k; omega⟩
  rw [List.drop_eq_nil_of_le (by omega)] at hall2
  have hall2 : 0 = bc := hall2
  rw [if_pos hall2.symm] at hv
  refine bsplit_of_false (decide_eq_false (by show ¬ (k : Int) < (x.bls.length : Int); omega)) ?_
  refine .inl ⟨_, _, rfl, c2, rfl, ?_⟩
  exact ⟨⟨congrArg (Value.int .i64) hv, trivial⟩, rfl⟩
end Go.Proofs.YtojaakpnpdnbhaaGreatDoor.L

/- What is wrong with a policy: the reference's contracts. -/
set_option linter.unusedVariables false
set_option linter.unusedSimpArgs false
set_option maxRecDepth 100000
namespace Go.Proofs.YtojaakpnpdnbhaaGreatDoor.L
open Go.RowKit
theorem firstNZ_all : ∀ {l : List Int}, firstNZ l = 0 → ∀ x ∈ l, x = 0
  | [], _, x, hx => by simp at hx
  | a :: l, h, x, hx => by
    simp only [firstNZ] at h
    split at h
    · rename_i ha
      rcases List.mem_cons.1 hx with rfl | hx
      · exact ha
      · exact firstNZ_all h x hx
    · rename_i ha; exact absurd h ha
theorem row_len {l : List (List Int)} (h : firstNZ (l.map rowBad) = 0) {i : Nat} (hi : i < l.length) : (l.getD i []).length ≤ 5 := by
  have h1 := firstNZ_all h (rowBad (l.getD i [])) (List.mem_map.2 ⟨_, by rw [getD_at _ hi]; exact List.getElem_mem hi, rfl⟩)
  unfold rowBad at h1
  cases hq : inR ((l.getD i []).length : Int) 1 5 with
  | true => have := (inR_iff.1 hq).2; omega
  | false => rw [hq] at h1; simp at h1
theorem upto_snoc (S : List Int) (x : Int) (g : Nat → List D) (hg : g 0 = [.v (.int .i64 x)]) (q : Nat) (hq : q < S.length + 1) : upto S.length (intsF S) g q = intsF (S ++ [x]) q := by
  unfold upto
  by_cases h : q < S.length
  · rw [if_pos h]
    show [D.v (.int .i64 (S.getD q 0))] = [D.v (.int .i64 ((S ++ [x]).getD q 0))]
    have : (S ++ [x]).getD q 0 = S.getD q 0 := by simp [List.getD, List.getElem?_append_left h]
    rw [this]
  · obtain rfl : q = S.length := by omega
    rw [if_neg h, Nat.sub_self, hg]
    show _ = [D.v (.int .i64 ((S ++ [x]).getD S.length 0))]
    have : (S ++ [x]).getD S.length 0 = x := by simp [List.getD]
    rw [this]
theorem c_spec_l6Owns (x : PolM) (hs : x.small) : FnOK Tryz.prog 32 [polP x] (ri (ownBad x.own)) := by
  have hl := hs.own
  have h0 := hs.ins
  have hr5 := @row_len x.own
  generalize hv : ownBad x.own = v
  unfold ownBad at hv
  generalize hc : firstNZ (x.own.map rowBad) = c at hv hr5
  generalize hd : dupS [] x.own.flatten = d at hv
  refine fn_of lv32 Tryz.func32 rfl rfl (by kernel_rfl) rfl ?_
  refine bsplit_intro (fun h => ?_) (fun h => ?_)
  · repeat' (first | refine bsplit_true ?_ | refine bsplit_false ?_)
    have h : decide ((x.own.length : Int) < 1) = true := h
    rw [show inR (x.own.length : Int) 1 3 = false from by unfold inR; have := of_decide_eq_true h; simp; omega] at hv
    exact ⟨⟨congrArg (Value.int .i64) hv, trivial⟩, rfl⟩
  repeat' (first | refine bsplit_true ?_ | refine bsplit_false ?_)
  refine bsplit_intro (fun h2 => ?_) (fun h2 => ?_)
  · have h2 : decide ((x.own.length : Int) > 3) = true := h2
    rw [show inR (x.own.length : Int) 1 3 = false from by unfold inR; have := of_decide_eq_true h2; simp; omega] at hv
    exact ⟨⟨congrArg (Value.int .i64) hv, trivial⟩, rfl⟩
  have hn1 : ¬ (x.own.length : Int) < 1 := of_decide_eq_false h
  have hn2 : ¬ (x.own.length : Int) > 3 := of_decide_eq_false h2
  rw [show inR (x.own.length : Int) 1 3 = true from inR_iff.2 ⟨by omega, by omega⟩] at hv
  have hv : (if c = 0 then (bif d then 6 else 0) else c) = v := hv
  refine ⟨{ i : Nat // i ≤ x.own.length ∧ firstNZ ((x.own.drop i).map rowBad) = c }, fun i => ⟨frL [(0, polP x), (3, di i.1)], hpL [], 96, 0⟩, fun i => x.own.length - i.1, ⟨0, by omega, hc⟩,
    le_of [] rfl rfl rfl rfl trivial (tellFr_x rfl ⟨DLe.refl _, DLe.refl _, DLe.refl _, DLe.refl _, trivial⟩ (tellFr_v rfl rfl trivial)), ?_⟩
  rintro ⟨i, hi, hall⟩
  by_cases h1 : i < x.own.length
  · rw [map_drop [] _ _ _ h1] at hall
    have hrl := h0 i h1
    generalize hb : rowBad (x.own.getD i []) = b at hall
    unfold rowBad at hb
    refine bsplit_of_true (decide_eq_true (by show (i : Int) < (x.own.length : Int); omega)) ?_
    refine ask_intro ⟨by omega, by show (i : Int) < (x.own.length : Int); omega, rfl⟩ ?_
    refine bsplit_intro (fun h3 => ?_) (fun h3 => ?_)
    · repeat' (first | refine bsplit_true ?_ | refine bsplit_false ?_)
      have h3 : decide (((x.own.getD i []).length : Int) < 1) = true := h3
      rw [show inR ((x.own.getD i []).length : Int) 1 5 = false from by unfold inR; have := of_decide_eq_true h3; simp only [Bool.and_eq_false_imp, decide_eq_true_eq, decide_eq_false_iff_not]; omega] at hb
      have hb : (2 : Int) = b := hb
      subst hb
      have hall : (2 : Int) = c := hall
      rw [if_neg (by omega), ← hall] at hv
      exact ⟨⟨congrArg (Value.int .i64) hv, trivial⟩, rfl⟩
    repeat' (first | refine bsplit_true ?_ | refine bsplit_false ?_)
    refine ask_intro ⟨by omega, by show (i : Int) < (x.own.length : Int); omega, rfl⟩ ?_
    repeat' (first | refine bsplit_true ?_ | refine bsplit_false ?_)
    refine bsplit_intro (fun h4 => ?_) (fun h4 => ?_)
    · have h4 : decide (((x.own.getD i []).length : Int) > 5) = true := h4
      rw [show inR ((x.own.getD i []).length : Int) 1 5 = false from by unfold inR; have := of_decide_eq_true h4; simp only [Bool.and_eq_false_imp, decide_eq_true_eq, decide_eq_false_iff_not]; omega] at hb
      have hb : (2 : Int) = b := hb
      subst hb
      have hall : (2 : Int) = c := hall
      rw [if_neg (by omega), ← hall] at hv
      exact ⟨⟨congrArg (Value.int .i64) hv, trivial⟩, rfl⟩
    have hm1 : ¬ ((x.own.getD i []).length : Int) < 1 := of_decide_eq_false h3
    have hm2 : ¬ ((x.own.getD i []).length : Int) > 5 := of_decide_eq_false h4
    rw [show inR ((x.own.getD i []).length : Int) 1 5 = true from inR_iff.2 ⟨by omega, by omega⟩] at hb
    have hb : (bif !(x.own.getD i []).all in23 then (3 : Int) else 0) = b := hb
    refine ⟨{ k : Nat // k ≤ (x.own.getD i []).length ∧ ((x.own.getD i []).drop k).all in23 = (x.own.getD i []).all in23 }, fun k => ⟨frL [(0, polP x), (3, di i), (4, di k.1)], hpL [], 96, 0⟩, fun k => (x.own.getD i []).length - k.1, ⟨0, by omega, by rw [List.drop_zero]⟩,
      le_of [] rfl rfl rfl rfl trivial (tellFr_x rfl ⟨DLe.refl _, DLe.refl _, DLe.refl _, DLe.refl _, trivial⟩ (tellFr_v rfl rfl (tellFr_v rfl rfl trivial))), ?_⟩
    rintro ⟨k, hk, hall2⟩
    refine ask_intro ⟨by omega, by show (i : Int) < (x.own.length : Int); omega, rfl⟩ ?_
    by_cases h5 : k < (x.own.getD i []).length
    · rw [drop_all _ in23 k h5] at hall2
      refine bsplit_of_true (decide_eq_true (by show (k : Int) < ((x.own.getD i []).length : Int); omega)) ?_
      refine ask_intro ⟨by omega, by show (i : Int) < (x.own.length : Int); omega, rfl⟩ ?_
      refine ask_intro ⟨by omega, by show (k : Int) < ((x.own.getD i []).length : Int); omega, rfl⟩ ?_
      refine .inl ⟨_, _, rfl, c_spec_l1In ((x.own.getD i []).getD k 0) 0 23, rfl, ?_⟩
      refine bsplit_intro (fun h6 => ?_) (fun h6 => ?_)
      · have h6 : in23 ((x.own.getD i []).getD k 0) = false := by simpa using h6
        rw [h6, Bool.false_and] at hall2
        rw [← hall2] at hb
        have hb : (3 : Int) = b := hb
        subst hb
        have hall : (3 : Int) = c := hall
        rw [if_neg (by omega), ← hall] at hv
        exact ⟨⟨congrArg (Value.int .i64) hv, trivial⟩, rfl⟩
      have h6 : in23 ((x.own.getD i []).getD k 0) = true := by simpa using h6
      rw [h6, Bool.true_and] at hall2
      exact ⟨⟨k + 1, by omega, hall2⟩, le_of [] rfl rfl rfl rfl trivial (tellFr_x rfl ⟨DLe.refl _, DLe.refl _, DLe.refl _, DLe.refl _, trivial⟩ (tellFr_v rfl rfl (tellFr_v rfl (congrArg (Value.int .i64) (wrap1 h5 (by omega))) trivial))), by show (x.own.getD i []).length - (k + 1) < (x.own.getD i []).length - k; omega⟩
    · rw [List.drop_eq_nil_of_le (by omega)] at hall2
      have hall2 : true = (x.own.getD i []).all in23 := hall2
      rw [← hall2] at hb
      have hb : (0 : Int) = b := hb
      subst hb
      have hall : firstNZ ((x.own.drop (i + 1)).map rowBad) = c := hall
      refine bsplit_of_false (decide_eq_false (by show ¬ (k : Int) < ((x.own.getD i []).length : Int); omega)) ?_
      exact ⟨⟨i + 1, by omega, hall⟩, le_of [] rfl rfl rfl rfl trivial (tellFr_x rfl ⟨DLe.refl _, DLe.refl _, DLe.refl _, DLe.refl _, trivial⟩ (tellFr_v rfl (congrArg (Value.int .i64) (wrap1 h1 (by omega))) trivial)), by show x.own.length - (i + 1) < x.own.length - i; omega⟩
  rw [List.drop_eq_nil_of_le (by omega)] at hall
  have hall : 0 = c := hall
  rw [if_pos hall.symm] at hv
  have hr6 := fun j => @hr5 hall.symm j
  refine bsplit_of_false (decide_eq_false (by show ¬ (i : Int) < (x.own.length : Int); omega)) ?_
  refine ⟨{ p : Nat × List Int // p.1 ≤ x.own.length ∧ p.2.length ≤ 5 * p.1 ∧ dupS p.2 (x.own.drop p.1).flatten = d },
    fun p => ⟨frL [(0, polP x), (5, .row 64), (6, di p.1.1)], hpL [(64, .row 2 1 p.1.2.length (intsF p.1.2))], 96, 0⟩, fun p => x.own.length - p.1.1, ⟨(0, []), by omega, by simp, hd⟩,
    le_of [(64, 4192)] rfl rfl rfl rfl (tellHp_row rfl rfl rfl (fun j hj => absurd hj (Nat.not_lt_zero _)) tellHp_nil) (tellFr_x rfl ⟨DLe.refl _, DLe.refl _, DLe.refl _, DLe.refl _, trivial⟩ (tellFr_row rfl rfl (tellFr_v rfl rfl trivial))), ?_⟩
  rintro ⟨⟨j, S⟩, hj, hSl, hdup⟩
  simp only at hj hSl hdup
  by_cases h1 : j < x.own.length
  · rw [flat_drop _ _ h1] at hdup
    have hrl := hr6 j h1
    refine bsplit_of_true (decide_eq_true (by show (j : Int) < (x.own.length : Int); omega)) ?_
    refine ⟨{ p : Nat × List Int // p.1 ≤ (x.own.getD j []).length ∧ p.2.length ≤ 5 * j + p.1 ∧ dupS p.2 ((x.own.getD j []).drop p.1 ++ (x.own.drop (j + 1)).flatten) = d },
      fun p => ⟨frL [(0, polP x), (5, .row 64), (6, di j), (7, di p.1.1)], hpL [(64, .row 2 1 p.1.2.length (intsF p.1.2))], 96, 0⟩, fun p => (x.own.getD j []).length - p.1.1, ⟨(0, S), by omega, by show S.length ≤ 5 * j + 0; omega, hdup⟩,
      le_of [(64, 64)] rfl rfl rfl rfl (tellHp_row rfl rfl rfl (fun j hj => rfl) tellHp_nil) (tellFr_x rfl ⟨DLe.refl _, DLe.refl _, DLe.refl _, DLe.refl _, trivial⟩ (tellFr_row rfl rfl (tellFr_v rfl rfl (tellFr_v rfl rfl trivial)))), ?_⟩
    rintro ⟨⟨k, S2⟩, hk, hSl2, hdup2⟩
    simp only at hk hSl2 hdup2
    refine ask_intro ⟨by omega, by show (j : Int) < (x.own.length : Int); omega, rfl⟩ ?_
    by_cases h5 : k < (x.own.getD j []).length
    · rw [dup_step S2 _ k h5] at hdup2
      refine bsplit_of_true (decide_eq_true (by show (k : Int) < ((x.own.getD j []).length : Int); omega)) ?_
      refine ask_intro ⟨by omega, by show (j : Int) < (x.own.length : Int); omega, rfl⟩ ?_
      refine ask_intro ⟨by omega, by show (k : Int) < ((x.own.getD j []).length : Int); omega, rfl⟩ ?_
      refine .inl ⟨_, _, rfl, c_spec_l1Has S2 ((x.own.getD j []).getD k 0) (by omega), rfl, ?_⟩
      refine bsplit_intro (fun h6 => ?_) (fun h6 => ?_)
      · have h6 : hasI S2 ((x.own.getD j []).getD k 0) = true := h6
        rw [h6, Bool.true_or] at hdup2
        rw [← hdup2] at hv
        exact ⟨⟨congrArg (Value.int .i64) hv, trivial⟩, rfl⟩
      have h6 : hasI S2 ((x.own.getD j []).getD k 0) = false := h6
      rw [h6, Bool.false_or] at hdup2
      refine ask_intro ⟨by omega, by show (j : Int) < (x.own.length : Int); omega, rfl⟩ ?_
      refine ask_intro ⟨by omega, by show (k : Int) < ((x.own.getD j []).length : Int); omega, rfl⟩ ?_
      refine ask_intro ⟨by show (S2.length + 1) * 8 ≤ _; omega, by show S2.length + 1 ≤ 9223372036854775807; omega, fun q hq => ?_⟩ ?_
      · obtain rfl : q = 0 := by omega
        rfl
      refine ⟨⟨(k + 1, S2 ++ [(x.own.getD j []).getD k 0]), by show k + 1 ≤ _; omega, by simp; omega, hdup2⟩, le_of [(64, 8672)] rfl rfl rfl rfl (tellHp_row rfl rfl (show S2.length + 1 = (S2 ++ [_]).length by simp) (fun q hq => ?_) tellHp_nil) (tellFr_x rfl ⟨DLe.refl _, DLe.refl _, DLe.refl _, DLe.refl _, trivial⟩ (tellFr_row rfl rfl (tellFr_v rfl rfl (tellFr_v rfl (congrArg (Value.int .i64) (wrap1 h5 (by omega))) trivial)))), by show (x.own.getD j []).length - (k + 1) < (x.own.getD j []).length - k; omega⟩
      exact upto_snoc S2 _ _ rfl q hq
    · rw [List.drop_eq_nil_of_le (by omega)] at hdup2
      refine bsplit_of_false (decide_eq_false (by show ¬ (k : Int) < ((x.own.getD j []).length : Int); omega)) ?_
      refine ⟨⟨(j + 1, S2), by show j + 1 ≤ _; omega, by show S2.length ≤ 5 * (j + 1); omega, hdup2⟩, le_of [(64, 64)] rfl rfl rfl rfl (tellHp_row rfl rfl rfl (fun j hj => rfl) tellHp_nil) (tellFr_x rfl ⟨DLe.refl _, DLe.refl _, DLe.refl _, DLe.refl _, trivial⟩ (tellFr_row rfl rfl (tellFr_v rfl (congrArg (Value.int .i64) (wrap1 h1 (by omega))) trivial))), by show x.own.length - (j + 1) < x.own.length - j; omega⟩
  rw [List.drop_eq_nil_of_le (by omega)] at hdup
  have hdup : false = d := hdup
  rw [← hdup] at hv
  refine bsplit_of_false (decide_eq_false (by show ¬ (j : Int) < (x.own.length : Int); omega)) ?_
  exact ⟨⟨congrArg (Value.int .i64) hv, trivial⟩, rfl⟩
end Go.Proofs.YtojaakpnpdnbhaaGreatDoor.L

/- The reference's reading of a line: contracts. -/
set_option linter.unusedVariables false
set_option linter.unusedSimpArgs false
set_option maxRecDepth 100000
namespace Go.Proofs.YtojaakpnpdnbhaaGreatDoor.L
open Go.RowKit
theorem tx_toList (a : List UInt8) : (tx a).toList = a := ByteArray.toList_mk a
theorem tx_beq (a b : List UInt8) : ((tx a).toList == (tx b).toList) = decide (a = b) := by
  rw [tx_toList, tx_toList]
  by_cases h : a = b
  · subst h; simp
  · rw [decide_eq_false h, beq_eq_false_iff_ne]; exact h
def wNames : List (List UInt8) := [wOwn, wLane, wBell, wSlot]
def kU (i : Nat) (w : List UInt8) : Int := if 3 < i ∧ w = wSlot then 3 else if 2 < i ∧ w = wBell then 2 else if 1 < i ∧ w = wLane then 1 else if 0 < i ∧ w = wOwn then 0 else -1
theorem kU_4 (w : List UInt8) : kU 4 w = kindW w := by
  unfold kU kindW
  by_cases h0 : w = wOwn
  · subst h0; decide
  by_cases h1 : w = wLane
  · subst h1; decide
  by_cases h2 : w = wBell
  · subst h2; decide
  by_cases h3 : w = wSlot
  · subst h3; decide
  simp [h0, h1, h2, h3]
theorem kU_hit (w : List UInt8) : ∀ i, i < 4 → wNames.getD i [] = w → kU (i + 1) w = (i : Int)
  | 0, _, rfl => by decide
  | 1, _, rfl => by decide
  | 2, _, rfl => by decide
  | 3, _, rfl => by decide
  | i + 4, h, _ => absurd h (by omega)
theorem kU_miss (w : List UInt8) : ∀ i, i < 4 → wNames.getD i [] ≠ w → kU (i + 1) w = kU i w
  | 0, _, h => by
    have h : ¬ w = wOwn := fun e => h e.symm
    unfold kU; simp [h]
  | 1, _, h => by
    have h : ¬ w = wLane := fun e => h e.symm
    unfold kU; simp [h]
  | 2, _, h => by
    have h : ¬ w = wBell := fun e => h e.symm
    unfold kU; simp [h]
  | 3, _, h => by
    have h : ¬ w = wSlot := fun e => h e.symm
    unfold kU; simp [h]
  | i + 4, h, _ => absurd h (by omega)
theorem tail_step (W : List (List UInt8)) {i : Nat} (h1 : 1 ≤ i) (hl : i < W.length) : (W.drop 1).take (i + 1 - 1) = (W.drop 1).take (i - 1) ++ [W.getD i []] := by
  have e : i + 1 - 1 = (i - 1) + 1 := by omega
  have hl2 : i - 1 < (W.drop 1).length := by rw [List.length_drop]; omega
  rw [e, List.take_succ_eq_append_getElem hl2, List.getElem_drop]
  have e2 : 1 + (i - 1) = i := by omega
  simp only [e2, List.getD, List.getElem?_eq_getElem hl, Option.getD_some]
theorem nums_fail (W : List (List UInt8)) {i : Nat} {n : List Int} (h1 : 1 ≤ i) (hl : i < W.length) (hn : numsW ((W.drop 1).take (i - 1)) = some n) (hx : numW (W.getD i []) = none) : numsW (W.drop 1) = none := by
  have e : numsW ((W.drop 1).take (i + 1 - 1)) = none := by rw [tail_step W h1 hl, numsW_snoc, hn, hx]
  have e2 := numsW_none e ((W.drop 1).drop (i + 1 - 1))
  rwa [List.take_append_drop] at e2
theorem nums_more (W : List (List UInt8)) {i : Nat} {n : List Int} {v : Int} (h1 : 1 ≤ i) (hl : i < W.length) (hn : numsW ((W.drop 1).take (i - 1)) = some n) (hx : numW (W.getD i []) = some v) : numsW ((W.drop 1).take (i + 1 - 1)) = some (n ++ [v]) := by
  rw [tail_step W h1 hl, numsW_snoc, hn, hx]
abbrev noWords : RV := .tup [.one (.v (.int .i64 0)), .one (.v (.slice none 0 0)), .one (.v (.bool false))]
abbrev okWords (k : Int) (n : List Int) : RV := .tup [.one (.v (.int .i64 k)), .one (oInts n), .one (.v (.bool true))]
def wordsR : Option (Int × List Int) → RV
  | none => noWords
  | some (k, n) => okWords k n
theorem names_row : ∀ j, j < 4 → (fun i => ([[D.v (.string ⟨#[111, 119, 110]⟩)], [D.v (.string ⟨#[108, 97, 110, 101]⟩)], [D.v (.string ⟨#[98, 101, 108, 108]⟩)], [D.v (.string ⟨#[115, 108, 111, 116]⟩)]] : List (List D)).getD i []) j = txsF wNames j
  | 0, _ => rfl
  | 1, _ => rfl
  | 2, _ => rfl
  | 3, _ => rfl
  | j + 4, h => absurd h (by omega)

set_option maxHeartbeats 3200000 in
theorem c_spec_l6Words_m (t : List UInt8) (ht : t.length ≤ 1000000) (hK : kindW ((cutL 32 t).getD 0 []) = (-1)) : FnOK Tryz.prog 16 [dT t] (wordsR (wordsW t)) := by
  have cc := c_spec_l6Cut t 32 ht
  have hWl := cutL_len 32 t
  have hWm := cutL_memlen 32 t
  obtain ⟨V, hV⟩ : ∃ V, V = wordsW t := ⟨_, rfl⟩
  rw [← hV]
  unfold wordsW at hV
  generalize cutL 32 t = W at *
  have hcn : ∀ i, i < W.length → FnOK Tryz.prog 31 [dT (W.getD i [])] (numR (W.getD i [])) := fun i hi => c_spec_l6Number _ (Nat.le_trans (hWm _ (by rw [getD_at _ hi]; exact List.getElem_mem hi)) ht)
  refine fn_of lv16 Tryz.func16 rfl rfl (by kernel_rfl) rfl ?_
  refine .inl ⟨_, _, rfl, cc, rfl, ?_⟩
  refine ⟨{ x : Nat × Int // x.1 ≤ 4 ∧ x.2 = kU x.1 (W.getD 0 []) }, fun x => ⟨frL [(5, .row 11), (6, .row 12), (7, di x.1.2), (8, di x.1.1)], hpL [(11, txE W), (12, txE wNames)], 100, 0⟩, fun x => 4 - x.1.1, ⟨(0, -1), Nat.zero_le _, by unfold kU; simp⟩,
    le_of [(11, 4128), (12, 8192)] rfl rfl rfl rfl (tellHp_row rfl rfl rfl (fun j hj => rfl) (tellHp_row rfl rfl rfl (fun j hj => names_row j hj) tellHp_nil)) (tellFr_row rfl rfl (tellFr_row rfl rfl (tellFr_v rfl rfl (tellFr_v rfl rfl trivial)))), ?_⟩
  rintro ⟨⟨i, k⟩, hi, hk⟩
  simp only at hi hk
  by_cases h : i < 4
  · have hwi : IntKind.i64.wrap ((i : Int) + 1) = ((i + 1 : Nat) : Int) := wrap_i64 (i + 1) (by omega) (by omega)
    refine bsplit_of_true (decide_eq_true (show (i : Int) < 4 by omega)) ?_
    refine ask_intro ⟨by show (0 : Int) ≤ (i : Int); omega, by show (i : Int) < 4; omega⟩ ?_
    refine ask_intro (show i < 4 by omega) ?_
    refine ask_intro ⟨by decide, by show (0 : Int) < (W.length : Int); omega⟩ ?_
    refine ask_intro (show 0 < W.length by omega) ?_
    refine chk_intro (by kernel_rfl) ?_
    by_cases hh : wNames.getD i [] = W.getD 0 []
    · refine bsplit_of_true (show ((tx (wNames.getD i [])).toList == (tx (W.getD 0 [])).toList) = true by rw [tx_beq, decide_eq_true hh]) ?_
      exact ⟨⟨(i + 1, (i : Int)), by show i + 1 ≤ 4; omega, (kU_hit _ i h hh).symm⟩,
        le_of [(11, 11), (12, 12)] rfl rfl rfl rfl (tellHp_row rfl rfl rfl (fun j hj => rfl) (tellHp_row rfl rfl rfl (fun j hj => rfl) tellHp_nil)) (tellFr_row rfl rfl (tellFr_row rfl rfl (tellFr_v rfl rfl (tellFr_v rfl (congrArg (Value.int .i64) hwi) trivial)))), by show 4 - (i + 1) < 4 - i; omega⟩
    · refine bsplit_of_false (show ((tx (wNames.getD i [])).toList == (tx (W.getD 0 [])).toList) = false by rw [tx_beq, decide_eq_false hh]) ?_
      exact ⟨⟨(i + 1, k), by show i + 1 ≤ 4; omega, hk.trans (kU_miss _ i h hh).symm⟩,
        le_of [(11, 11), (12, 12)] rfl rfl rfl rfl (tellHp_row rfl rfl rfl (fun j hj => rfl) (tellHp_row rfl rfl rfl (fun j hj => rfl) tellHp_nil)) (tellFr_row rfl rfl (tellFr_row rfl rfl (tellFr_v rfl rfl (tellFr_v rfl (congrArg (Value.int .i64) hwi) trivial)))), by show 4 - (i + 1) < 4 - i; omega⟩
  · obtain rfl : i = 4 := by omega
    have hkK : k = (-1) := by rw [hk, kU_4, hK]
    refine bsplit_of_false (decide_eq_false (show ¬ ((4 : Nat) : Int) < 4 by omega)) ?_
    refine ⟨{ x : Nat × List Int // 1 ≤ x.1 ∧ x.1 ≤ W.length ∧ x.2.length = x.1 - 1 ∧ numsW ((W.drop 1).take (x.1 - 1)) = some x.2 }, fun x => ⟨frL [(5, .row 11), (7, di (-1)), (9, .row 13), (10, di x.1.1)], hpL [(11, txE W), (13, rowE x.1.2)], 100, 0⟩, fun x => W.length - x.1.1, ⟨(1, []), Nat.le_refl _, hWl.1, rfl, rfl⟩,
      le_of [(11, 11), (13, 4196)] rfl rfl rfl rfl (tellHp_row rfl rfl rfl (fun j hj => rfl) (tellHp_row rfl rfl rfl (fun j hj => absurd hj (Nat.not_lt_zero _)) tellHp_nil)) (tellFr_row rfl rfl (tellFr_v rfl (congrArg (Value.int .i64) hkK) (tellFr_row rfl rfl (tellFr_v rfl rfl trivial)))), ?_⟩
    rintro ⟨⟨i, n⟩, h1, hi, hln, hn⟩
    simp only at h1 hi hln hn
    by_cases h : i < W.length
    · have hwi : IntKind.i64.wrap ((i : Int) + 1) = ((i + 1 : Nat) : Int) := wrap_i64 (i + 1) (by omega) (by omega)
      have cn := hcn i h
      have hsn : ∀ v : Int, (n ++ [v]).length = n.length + 1 := fun v => by simp
      refine bsplit_of_true (decide_eq_true (show (i : Int) < (W.length : Int) by omega)) ?_
      refine ask_intro ⟨by show (0 : Int) ≤ (i : Int); omega, by show (i : Int) < (W.length : Int); omega⟩ ?_
      refine ask_intro (show i < W.length by omega) ?_
      refine .inl ⟨_, _, rfl, cn, rfl, ?_⟩
      by_cases hx : numW (W.getD i []) = none
      · rw [nums_fail W h1 h hn hx] at hV
        subst hV
        refine bsplit_of_true (show (!(numW (W.getD i [])).isSome) = true by rw [hx]; rfl) ?_
        exact ⟨⟨rfl, rfl, rfl, trivial⟩, rfl⟩
      · obtain ⟨v, hv⟩ := Option.ne_none_iff_exists'.1 hx
        have hvv : numV (W.getD i []) = v := by unfold numV; rw [hv]; rfl
        refine bsplit_of_false (show (!(numW (W.getD i [])).isSome) = false by rw [hv]; rfl) ?_
        refine ask_intro ⟨by show (n.length + 1) * 8 ≤ 140737488355328; omega, by show n.length + 1 ≤ 9223372036854775807; omega, fun j hj => by obtain rfl : j = 0 := (by omega); rfl⟩ ?_
        exact ⟨⟨(i + 1, n ++ [numV (W.getD i [])]), by show 1 ≤ i + 1; omega, by show i + 1 ≤ W.length; omega, by show (n ++ [numV (W.getD i [])]).length = i + 1 - 1; rw [hsn]; omega, by show numsW _ = some (n ++ [numV (W.getD i [])]); rw [hvv]; exact nums_more W h1 h hn hv⟩,
          le_of [(11, 11), (13, 12484)] rfl rfl rfl rfl (tellHp_row rfl rfl rfl (fun j hj => rfl) (tellHp_row rfl rfl (hsn _).symm (fun j hj => upto_snoc n _ _ rfl j hj) tellHp_nil)) (tellFr_row rfl rfl (tellFr_v rfl rfl (tellFr_row rfl rfl (tellFr_v rfl (congrArg (Value.int .i64) hwi) trivial)))), by show W.length - (i + 1) < W.length - i; omega⟩
    · obtain rfl : i = W.length := by omega
      have hn2 : numsW (W.drop 1) = some n := by rw [← hn, List.take_of_length_le (by rw [List.length_drop]; omega)]
      rw [hn2] at hV
      simp only at hV
      refine bsplit_of_false (decide_eq_false (show ¬ (W.length : Int) < (W.length : Int) by omega)) ?_
      rw [if_pos (by omega)] at hV
      subst hV
      repeat' (first | refine bsplit_true ?_ | refine bsplit_false ?_)
      exact ⟨⟨rfl, rfl, rfl, trivial⟩, rfl⟩
set_option maxHeartbeats 3200000 in
theorem c_spec_l6Words_0 (t : List UInt8) (ht : t.length ≤ 1000000) (hK : kindW ((cutL 32 t).getD 0 []) = 0) : FnOK Tryz.prog 16 [dT t] (wordsR (wordsW t)) := by
  have cc := c_spec_l6Cut t 32 ht
  have hWl := cutL_len 32 t
  have hWm := cutL_memlen 32 t
  obtain ⟨V, hV⟩ : ∃ V, V = wordsW t := ⟨_, rfl⟩
  rw [← hV]
  unfold wordsW at hV
  generalize cutL 32 t = W at *
  have hcn : ∀ i, i < W.length → FnOK Tryz.prog 31 [dT (W.getD i [])] (numR (W.getD i [])) := fun i hi => c_spec_l6Number _ (Nat.le_trans (hWm _ (by rw [getD_at _ hi]; exact List.getElem_mem hi)) ht)
  refine fn_of lv16 Tryz.func16 rfl rfl (by kernel_rfl) rfl ?_
  refine .inl ⟨_, _, rfl, cc, rfl, ?_⟩
  refine ⟨{ x : Nat × Int // x.1 ≤ 4 ∧ x.2 = kU x.1 (W.getD 0 []) }, fun x => ⟨frL [(5, .row 11), (6, .row 12), (7, di x.1.2), (8, di x.1.1)], hpL [(11, txE W), (12, txE wNames)], 100, 0⟩, fun x => 4 - x.1.1, ⟨(0, -1), Nat.zero_le _, by unfold kU; simp⟩,
    le_of [(11, 4128), (12, 8192)] rfl rfl rfl rfl (tellHp_row rfl rfl rfl (fun j hj => rfl) (tellHp_row rfl rfl rfl (fun j hj => names_row j hj) tellHp_nil)) (tellFr_row rfl rfl (tellFr_row rfl rfl (tellFr_v rfl rfl (tellFr_v rfl rfl trivial)))), ?_⟩
  rintro ⟨⟨i, k⟩, hi, hk⟩
  simp only at hi hk
  by_cases h : i < 4
  · have hwi : IntKind.i64.wrap ((i : Int) + 1) = ((i + 1 : Nat) : Int) := wrap_i64 (i + 1) (by omega) (by omega)
    refine bsplit_of_true (decide_eq_true (show (i : Int) < 4 by omega)) ?_
    refine ask_intro ⟨by show (0 : Int) ≤ (i : Int); omega, by show (i : Int) < 4; omega⟩ ?_
    refine ask_intro (show i < 4 by omega) ?_
    refine ask_intro ⟨by decide, by show (0 : Int) < (W.length : Int); omega⟩ ?_
    refine ask_intro (show 0 < W.length by omega) ?_
    refine chk_intro (by kernel_rfl) ?_
    by_cases hh : wNames.getD i [] = W.getD 0 []
    · refine bsplit_of_true (show ((tx (wNames.getD i [])).toList == (tx (W.getD 0 [])).toList) = true by rw [tx_beq, decide_eq_true hh]) ?_
      exact ⟨⟨(i + 1, (i : Int)), by show i + 1 ≤ 4; omega, (kU_hit _ i h hh).symm⟩,
        le_of [(11, 11), (12, 12)] rfl rfl rfl rfl (tellHp_row rfl rfl rfl (fun j hj => rfl) (tellHp_row rfl rfl rfl (fun j hj => rfl) tellHp_nil)) (tellFr_row rfl rfl (tellFr_row rfl rfl (tellFr_v rfl rfl (tellFr_v rfl (congrArg (Value.int .i64) hwi) trivial)))), by show 4 - (i + 1) < 4 - i; omega⟩
    · refine bsplit_of_false (show ((tx (wNames.getD i [])).toList == (tx (W.getD 0 [])).toList) = false by rw [tx_beq, decide_eq_false hh]) ?_
      exact ⟨⟨(i + 1, k), by show i + 1 ≤ 4; omega, hk.trans (kU_miss _ i h hh).symm⟩,
        le_of [(11, 11), (12, 12)] rfl rfl rfl rfl (tellHp_row rfl rfl rfl (fun j hj => rfl) (tellHp_row rfl rfl rfl (fun j hj => rfl) tellHp_nil)) (tellFr_row rfl rfl (tellFr_row rfl rfl (tellFr_v rfl rfl (tellFr_v rfl (congrArg (Value.int .i64) hwi) trivial)))), by show 4 - (i + 1) < 4 - i; omega⟩
  · obtain rfl : i = 4 := by omega
    have hkK : k = 0 := by rw [hk, kU_4, hK]
    refine bsplit_of_false (decide_eq_false (show ¬ ((4 : Nat) : Int) < 4 by omega)) ?_
    refine ⟨{ x : Nat × List Int // 1 ≤ x.1 ∧ x.1 ≤ W.length ∧ x.2.length = x.1 - 1 ∧ numsW ((W.drop 1).take (x.1 - 1)) = some x.2 }, fun x => ⟨frL [(5, .row 11), (7, di 0), (9, .row 13), (10, di x.1.1)], hpL [(11, txE W), (13, rowE x.1.2)], 100, 0⟩, fun x => W.length - x.1.1, ⟨(1, []), Nat.le_refl _, hWl.1, rfl, rfl⟩,
      le_of [(11, 11), (13, 4196)] rfl rfl rfl rfl (tellHp_row rfl rfl rfl (fun j hj => rfl) (tellHp_row rfl rfl rfl (fun j hj => absurd hj (Nat.not_lt_zero _)) tellHp_nil)) (tellFr_row rfl rfl (tellFr_v rfl (congrArg (Value.int .i64) hkK) (tellFr_row rfl rfl (tellFr_v rfl rfl trivial)))), ?_⟩
    rintro ⟨⟨i, n⟩, h1, hi, hln, hn⟩
    simp only at h1 hi hln hn
    by_cases h : i < W.length
    · have hwi : IntKind.i64.wrap ((i : Int) + 1) = ((i + 1 : Nat) : Int) := wrap_i64 (i + 1) (by omega) (by omega)
      have cn := hcn i h
      have hsn : ∀ v : Int, (n ++ [v]).length = n.length + 1 := fun v => by simp
      refine bsplit_of_true (decide_eq_true (show (i : Int) < (W.length : Int) by omega)) ?_
      refine ask_intro ⟨by show (0 : Int) ≤ (i : Int); omega, by show (i : Int) < (W.length : Int); omega⟩ ?_
      refine ask_intro (show i < W.length by omega) ?_
      refine .inl ⟨_, _, rfl, cn, rfl, ?_⟩
      by_cases hx : numW (W.getD i []) = none
      · rw [nums_fail W h1 h hn hx] at hV
        subst hV
        refine bsplit_of_true (show (!(numW (W.getD i [])).isSome) = true by rw [hx]; rfl) ?_
        exact ⟨⟨rfl, rfl, rfl, trivial⟩, rfl⟩
      · obtain ⟨v, hv⟩ := Option.ne_none_iff_exists'.1 hx
        have hvv : numV (W.getD i []) = v := by unfold numV; rw [hv]; rfl
        refine bsplit_of_false (show (!(numW (W.getD i [])).isSome) = false by rw [hv]; rfl) ?_
        refine ask_intro ⟨by show (n.length + 1) * 8 ≤ 140737488355328; omega, by show n.length + 1 ≤ 9223372036854775807; omega, fun j hj => by obtain rfl : j = 0 := (by omega); rfl⟩ ?_
        exact ⟨⟨(i + 1, n ++ [numV (W.getD i [])]), by show 1 ≤ i + 1; omega, by show i + 1 ≤ W.length; omega, by show (n ++ [numV (W.getD i [])]).length = i + 1 - 1; rw [hsn]; omega, by show numsW _ = some (n ++ [numV (W.getD i [])]); rw [hvv]; exact nums_more W h1 h hn hv⟩,
          le_of [(11, 11), (13, 12484)] rfl rfl rfl rfl (tellHp_row rfl rfl rfl (fun j hj => rfl) (tellHp_row rfl rfl (hsn _).symm (fun j hj => upto_snoc n _ _ rfl j hj) tellHp_nil)) (tellFr_row rfl rfl (tellFr_v rfl rfl (tellFr_row rfl rfl (tellFr_v rfl (congrArg (Value.int .i64) hwi) trivial)))), by show W.length - (i + 1) < W.length - i; omega⟩
    · obtain rfl : i = W.length := by omega
      have hn2 : numsW (W.drop 1) = some n := by rw [← hn, List.take_of_length_le (by rw [List.length_drop]; omega)]
      rw [hn2] at hV
      simp only at hV
      refine bsplit_of_false (decide_eq_false (show ¬ (W.length : Int) < (W.length : Int) by omega)) ?_
      rw [if_neg (by omega)] at hV
      repeat' (first | refine bsplit_true ?_ | refine bsplit_false ?_)
      by_cases hw1 : n.length < 1
      · rw [if_neg (by rw [hK]; unfold wantOK; simp; omega)] at hV
        subst hV
        refine bsplit_of_true (decide_eq_true (show (n.length : Int) < 1 by omega)) ?_
        repeat' (first | refine bsplit_true ?_ | refine bsplit_false ?_)
        exact ⟨⟨rfl, rfl, rfl, trivial⟩, rfl⟩
      refine bsplit_of_false (decide_eq_false (show ¬ (n.length : Int) < 1 by omega)) ?_
      repeat' (first | refine bsplit_true ?_ | refine bsplit_false ?_)
      by_cases hw9 : 9 < n.length
      · rw [if_neg (by rw [hK]; unfold wantOK; simp; omega)] at hV
        subst hV
        refine bsplit_of_true (decide_eq_true (show (n.length : Int) > 9 by omega)) ?_
        repeat' (first | refine bsplit_true ?_ | refine bsplit_false ?_)
        exact ⟨⟨rfl, rfl, rfl, trivial⟩, rfl⟩
      rw [if_pos (by rw [hK]; unfold wantOK; simp; omega), hK] at hV
      subst hV
      refine bsplit_of_false (decide_eq_false (show ¬ (n.length : Int) > 9 by omega)) ?_
      repeat' (first | refine bsplit_true ?_ | refine bsplit_false ?_)
      exact ⟨⟨rfl, ⟨rfl, rfl, rfl, fun j hj => ⟨rfl, rfl⟩⟩, rfl, trivial⟩, rfl⟩
set_option maxHeartbeats 3200000 in
theorem c_spec_l6Words_1 (t : List UInt8) (ht : t.length ≤ 1000000) (hK : kindW ((cutL 32 t).getD 0 []) = 1) : FnOK Tryz.prog 16 [dT t] (wordsR (wordsW t)) := by
  have cc := c_spec_l6Cut t 32 ht
  have hWl := cutL_len 32 t
  have hWm := cutL_memlen 32 t
  obtain ⟨V, hV⟩ : ∃ V, V = wordsW t := ⟨_, rfl⟩
  rw [← hV]
  unfold wordsW at hV
  generalize cutL 32 t = W at *
  have hcn : ∀ i, i < W.length → FnOK Tryz.prog 31 [dT (W.getD i [])] (numR (W.getD i [])) := fun i hi => c_spec_l6Number _ (Nat.le_trans (hWm _ (by rw [getD_at _ hi]; exact List.getElem_mem hi)) ht)
  refine fn_of lv16 Tryz.func16 rfl rfl (by kernel_rfl) rfl ?_
  refine .inl ⟨_, _, rfl, cc, rfl, ?_⟩
  refine ⟨{ x : Nat × Int // x.1 ≤ 4 ∧ x.2 = kU x.1 (W.getD 0 []) }, fun x => ⟨frL [(5, .row 11), (6, .row 12), (7, di x.1.2), (8, di x.1.1)], hpL [(11, txE W), (12, txE wNames)], 100, 0⟩, fun x => 4 - x.1.1, ⟨(0, -1), Nat.zero_le _, by unfold kU; simp⟩,
    le_of [(11, 4128), (12, 8192)] rfl rfl rfl rfl (tellHp_row rfl rfl rfl (fun j hj => rfl) (tellHp_row rfl rfl rfl (fun j hj => names_row j hj) tellHp_nil)) (tellFr_row rfl rfl (tellFr_row rfl rfl (tellFr_v rfl rfl (tellFr_v rfl rfl trivial)))), ?_⟩
  rintro ⟨⟨i, k⟩, hi, hk⟩
  simp only at hi hk
  by_cases h : i < 4
  · have hwi : IntKind.i64.wrap ((i : Int) + 1) = ((i + 1 : Nat) : Int) := wrap_i64 (i + 1) (by omega) (by omega)
    refine bsplit_of_true (decide_eq_true (show (i : Int) < 4 by omega)) ?_
    refine ask_intro ⟨by show (0 : Int) ≤ (i : Int); omega, by show (i : Int) < 4; omega⟩ ?_
    refine ask_intro (show i < 4 by omega) ?_
    refine ask_intro ⟨by decide, by show (0 : Int) < (W.length : Int); omega⟩ ?_
    refine ask_intro (show 0 < W.length by omega) ?_
    refine chk_intro (by kernel_rfl) ?_
    by_cases hh : wNames.getD i [] = W.getD 0 []
    · refine bsplit_of_true (show ((tx (wNames.getD i [])).toList == (tx (W.getD 0 [])).toList) = true by rw [tx_beq, decide_eq_true hh]) ?_
      exact ⟨⟨(i + 1, (i : Int)), by show i + 1 ≤ 4; omega, (kU_hit _ i h hh).symm⟩,
        le_of [(11, 11), (12, 12)] rfl rfl rfl rfl (tellHp_row rfl rfl rfl (fun j hj => rfl) (tellHp_row rfl rfl rfl (fun j hj => rfl) tellHp_nil)) (tellFr_row rfl rfl (tellFr_row rfl rfl (tellFr_v rfl rfl (tellFr_v rfl (congrArg (Value.int .i64) hwi) trivial)))), by show 4 - (i + 1) < 4 - i; omega⟩
    · refine bsplit_of_false (show ((tx (wNames.getD i [])).toList == (tx (W.getD 0 [])).toList) = false by rw [tx_beq, decide_eq_false hh]) ?_
      exact ⟨⟨(i + 1, k), by show i + 1 ≤ 4; omega, hk.trans (kU_miss _ i h hh).symm⟩,
        le_of [(11, 11), (12, 12)] rfl rfl rfl rfl (tellHp_row rfl rfl rfl (fun j hj => rfl) (tellHp_row rfl rfl rfl (fun j hj => rfl) tellHp_nil)) (tellFr_row rfl rfl (tellFr_row rfl rfl (tellFr_v rfl rfl (tellFr_v rfl (congrArg (Value.int .i64) hwi) trivial)))), by show 4 - (i + 1) < 4 - i; omega⟩
  · obtain rfl : i = 4 := by omega
    have hkK : k = 1 := by rw [hk, kU_4, hK]
    refine bsplit_of_false (decide_eq_false (show ¬ ((4 : Nat) : Int) < 4 by omega)) ?_
    refine ⟨{ x : Nat × List Int // 1 ≤ x.1 ∧ x.1 ≤ W.length ∧ x.2.length = x.1 - 1 ∧ numsW ((W.drop 1).take (x.1 - 1)) = some x.2 }, fun x => ⟨frL [(5, .row 11), (7, di 1), (9, .row 13), (10, di x.1.1)], hpL [(11, txE W), (13, rowE x.1.2)], 100, 0⟩, fun x => W.length - x.1.1, ⟨(1, []), Nat.le_refl _, hWl.1, rfl, rfl⟩,
      le_of [(11, 11), (13, 4196)] rfl rfl rfl rfl (tellHp_row rfl rfl rfl (fun j hj => rfl) (tellHp_row rfl rfl rfl (fun j hj => absurd hj (Nat.not_lt_zero _)) tellHp_nil)) (tellFr_row rfl rfl (tellFr_v rfl (congrArg (Value.int .i64) hkK) (tellFr_row rfl rfl (tellFr_v rfl rfl trivial)))), ?_⟩
    rintro ⟨⟨i, n⟩, h1, hi, hln, hn⟩
    simp only at h1 hi hln hn
    by_cases h : i < W.length
    · have hwi : IntKind.i64.wrap ((i : Int) + 1) = ((i + 1 : Nat) : Int) := wrap_i64 (i + 1) (by omega) (by omega)
      have cn := hcn i h
      have hsn : ∀ v : Int, (n ++ [v]).length = n.length + 1 := fun v => by simp
      refine bsplit_of_true (decide_eq_true (show (i : Int) < (W.length : Int) by omega)) ?_
      refine ask_intro ⟨by show (0 : Int) ≤ (i : Int); omega, by show (i : Int) < (W.length : Int); omega⟩ ?_
      refine ask_intro (show i < W.length by omega) ?_
      refine .inl ⟨_, _, rfl, cn, rfl, ?_⟩
      by_cases hx : numW (W.getD i []) = none
      · rw [nums_fail W h1 h hn hx] at hV
        subst hV
        refine bsplit_of_true (show (!(numW (W.getD i [])).isSome) = true by rw [hx]; rfl) ?_
        exact ⟨⟨rfl, rfl, rfl, trivial⟩, rfl⟩
      · obtain ⟨v, hv⟩ := Option.ne_none_iff_exists'.1 hx
        have hvv : numV (W.getD i []) = v := by unfold numV; rw [hv]; rfl
        refine bsplit_of_false (show (!(numW (W.getD i [])).isSome) = false by rw [hv]; rfl) ?_
        refine ask_intro ⟨by show (n.length + 1) * 8 ≤ 140737488355328; omega, by show n.length + 1 ≤ 9223372036854775807; omega, fun j hj => by obtain rfl : j = 0 := (by omega); rfl⟩ ?_
        exact ⟨⟨(i + 1, n ++ [numV (W.getD i [])]), by show 1 ≤ i + 1; omega, by show i + 1 ≤ W.length; omega, by show (n ++ [numV (W.getD i [])]).length = i + 1 - 1; rw [hsn]; omega, by show numsW _ = some (n ++ [numV (W.getD i [])]); rw [hvv]; exact nums_more W h1 h hn hv⟩,
          le_of [(11, 11), (13, 12484)] rfl rfl rfl rfl (tellHp_row rfl rfl rfl (fun j hj => rfl) (tellHp_row rfl rfl (hsn _).symm (fun j hj => upto_snoc n _ _ rfl j hj) tellHp_nil)) (tellFr_row rfl rfl (tellFr_v rfl rfl (tellFr_row rfl rfl (tellFr_v rfl (congrArg (Value.int .i64) hwi) trivial)))), by show W.length - (i + 1) < W.length - i; omega⟩
    · obtain rfl : i = W.length := by omega
      have hn2 : numsW (W.drop 1) = some n := by rw [← hn, List.take_of_length_le (by rw [List.length_drop]; omega)]
      rw [hn2] at hV
      simp only at hV
      refine bsplit_of_false (decide_eq_false (show ¬ (W.length : Int) < (W.length : Int) by omega)) ?_
      rw [if_neg (by omega)] at hV
      repeat' (first | refine bsplit_true ?_ | refine bsplit_false ?_)
      refine ask_intro ⟨by decide, by decide⟩ ?_
      repeat' (first | refine bsplit_true ?_ | refine bsplit_false ?_)
      refine ask_intro (by decide) ?_
      repeat' (first | refine bsplit_true ?_ | refine bsplit_false ?_)
      by_cases hw1 : n.length = 5
      · rw [if_pos (by rw [hK]; unfold wantOK; simp [hw1]), hK] at hV
        subst hV
        refine bsplit_of_false (show ((n.length : Int) != 5) = false by rw [hw1]; rfl) ?_
        repeat' (first | refine bsplit_true ?_ | refine bsplit_false ?_)
        exact ⟨⟨rfl, ⟨rfl, rfl, rfl, fun j hj => ⟨rfl, rfl⟩⟩, rfl, trivial⟩, rfl⟩
      · rw [if_neg (by rw [hK]; unfold wantOK; simp [hw1])] at hV
        subst hV
        refine bsplit_of_true (show ((n.length : Int) != 5) = true by rw [bne_iff_ne]; omega) ?_
        repeat' (first | refine bsplit_true ?_ | refine bsplit_false ?_)
        exact ⟨⟨rfl, rfl, rfl, trivial⟩, rfl⟩
set_option maxHeartbeats 3200000 in
theorem c_spec_l6Words_2 (t : List UInt8) (ht : t.length ≤ 1000000) (hK : kindW ((cutL 32 t).getD 0 []) = 2) : FnOK Tryz.prog 16 [dT t] (wordsR (wordsW t)) := by
  have cc := c_spec_l6Cut t 32 ht
  have hWl := cutL_len 32 t
  have hWm := cutL_memlen 32 t
  obtain ⟨V, hV⟩ : ∃ V, V = wordsW t := ⟨_, rfl⟩
  rw [← hV]
  unfold wordsW at hV
  generalize cutL 32 t = W at *
  have hcn : ∀ i, i < W.length → FnOK Tryz.prog 31 [dT (W.getD i [])] (numR (W.getD i [])) := fun i hi => c_spec_l6Number _ (Nat.le_trans (hWm _ (by rw [getD_at _ hi]; exact List.getElem_mem hi)) ht)
  refine fn_of lv16 Tryz.func16 rfl rfl (by kernel_rfl) rfl ?_
  refine .inl ⟨_, _, rfl, cc, rfl, ?_⟩
  refine ⟨{ x : Nat × Int // x.1 ≤ 4 ∧ x.2 = kU x.1 (W.getD 0 []) }, fun x => ⟨frL [(5, .row 11), (6, .row 12), (7, di x.1.2), (8, di x.1.1)], hpL [(11, txE W), (12, txE wNames)], 100, 0⟩, fun x => 4 - x.1.1, ⟨(0, -1), Nat.zero_le _, by unfold kU; simp⟩,
    le_of [(11, 4128), (12, 8192)] rfl rfl rfl rfl (tellHp_row rfl rfl rfl (fun j hj => rfl) (tellHp_row rfl rfl rfl (fun j hj => names_row j hj) tellHp_nil)) (tellFr_row rfl rfl (tellFr_row rfl rfl (tellFr_v rfl rfl (tellFr_v rfl rfl trivial)))), ?_⟩
  rintro ⟨⟨i, k⟩, hi, hk⟩
  simp only at hi hk
  by_cases h : i < 4
  · have hwi : IntKind.i64.wrap ((i : Int) + 1) = ((i + 1 : Nat) : Int) := wrap_i64 (i + 1) (by omega) (by omega)
    refine bsplit_of_true (decide_eq_true (show (i : Int) < 4 by omega)) ?_
    refine ask_intro ⟨by show (0 : Int) ≤ (i : Int); omega, by show (i : Int) < 4; omega⟩ ?_
    refine ask_intro (show i < 4 by omega) ?_
    refine ask_intro ⟨by decide, by show (0 : Int) < (W.length : Int); omega⟩ ?_
    refine ask_intro (show 0 < W.length by omega) ?_
    refine chk_intro (by kernel_rfl) ?_
    by_cases hh : wNames.getD i [] = W.getD 0 []
    · refine bsplit_of_true (show ((tx (wNames.getD i [])).toList == (tx (W.getD 0 [])).toList) = true by rw [tx_beq, decide_eq_true hh]) ?_
      exact ⟨⟨(i + 1, (i : Int)), by show i + 1 ≤ 4; omega, (kU_hit _ i h hh).symm⟩,
        le_of [(11, 11), (12, 12)] rfl rfl rfl rfl (tellHp_row rfl rfl rfl (fun j hj => rfl) (tellHp_row rfl rfl rfl (fun j hj => rfl) tellHp_nil)) (tellFr_row rfl rfl (tellFr_row rfl rfl (tellFr_v rfl rfl (tellFr_v rfl (congrArg (Value.int .i64) hwi) trivial)))), by show 4 - (i + 1) < 4 - i; omega⟩
    · refine bsplit_of_false (show ((tx (wNames.getD i [])).toList == (tx (W.getD 0 [])).toList) = false by rw [tx_beq, decide_eq_false hh]) ?_
      exact ⟨⟨(i + 1, k), by show i + 1 ≤ 4; omega, hk.trans (kU_miss _ i h hh).symm⟩,
        le_of [(11, 11), (12, 12)] rfl rfl rfl rfl (tellHp_row rfl rfl rfl (fun j hj => rfl) (tellHp_row rfl rfl rfl (fun j hj => rfl) tellHp_nil)) (tellFr_row rfl rfl (tellFr_row rfl rfl (tellFr_v rfl rfl (tellFr_v rfl (congrArg (Value.int .i64) hwi) trivial)))), by show 4 - (i + 1) < 4 - i; omega⟩
  · obtain rfl : i = 4 := by omega
    have hkK : k = 2 := by rw [hk, kU_4, hK]
    refine bsplit_of_false (decide_eq_false (show ¬ ((4 : Nat) : Int) < 4 by omega)) ?_
    refine ⟨{ x : Nat × List Int // 1 ≤ x.1 ∧ x.1 ≤ W.length ∧ x.2.length = x.1 - 1 ∧ numsW ((W.drop 1).take (x.1 - 1)) = some x.2 }, fun x => ⟨frL [(5, .row 11), (7, di 2), (9, .row 13), (10, di x.1.1)], hpL [(11, txE W), (13, rowE x.1.2)], 100, 0⟩, fun x => W.length - x.1.1, ⟨(1, []), Nat.le_refl _, hWl.1, rfl, rfl⟩,
      le_of [(11, 11), (13, 4196)] rfl rfl rfl rfl (tellHp_row rfl rfl rfl (fun j hj => rfl) (tellHp_row rfl rfl rfl (fun j hj => absurd hj (Nat.not_lt_zero _)) tellHp_nil)) (tellFr_row rfl rfl (tellFr_v rfl (congrArg (Value.int .i64) hkK) (tellFr_row rfl rfl (tellFr_v rfl rfl trivial)))), ?_⟩
    rintro ⟨⟨i, n⟩, h1, hi, hln, hn⟩
    simp only at h1 hi hln hn
    by_cases h : i < W.length
    · have hwi : IntKind.i64.wrap ((i : Int) + 1) = ((i + 1 : Nat) : Int) := wrap_i64 (i + 1) (by omega) (by omega)
      have cn := hcn i h
      have hsn : ∀ v : Int, (n ++ [v]).length = n.length + 1 := fun v => by simp
      refine bsplit_of_true (decide_eq_true (show (i : Int) < (W.length : Int) by omega)) ?_
      refine ask_intro ⟨by show (0 : Int) ≤ (i : Int); omega, by show (i : Int) < (W.length : Int); omega⟩ ?_
      refine ask_intro (show i < W.length by omega) ?_
      refine .inl ⟨_, _, rfl, cn, rfl, ?_⟩
      by_cases hx : numW (W.getD i []) = none
      · rw [nums_fail W h1 h hn hx] at hV
        subst hV
        refine bsplit_of_true (show (!(numW (W.getD i [])).isSome) = true by rw [hx]; rfl) ?_
        exact ⟨⟨rfl, rfl, rfl, trivial⟩, rfl⟩
      · obtain ⟨v, hv⟩ := Option.ne_none_iff_exists'.1 hx
        have hvv : numV (W.getD i []) = v := by unfold numV; rw [hv]; rfl
        refine bsplit_of_false (show (!(numW (W.getD i [])).isSome) = false by rw [hv]; rfl) ?_
        refine ask_intro ⟨by show (n.length + 1) * 8 ≤ 140737488355328; omega, by show n.length + 1 ≤ 9223372036854775807; omega, fun j hj => by obtain rfl : j = 0 := (by omega); rfl⟩ ?_
        exact ⟨⟨(i + 1, n ++ [numV (W.getD i [])]), by show 1 ≤ i + 1; omega, by show i + 1 ≤ W.length; omega, by show (n ++ [numV (W.getD i [])]).length = i + 1 - 1; rw [hsn]; omega, by show numsW _ = some (n ++ [numV (W.getD i [])]); rw [hvv]; exact nums_more W h1 h hn hv⟩,
          le_of [(11, 11), (13, 12484)] rfl rfl rfl rfl (tellHp_row rfl rfl rfl (fun j hj => rfl) (tellHp_row rfl rfl (hsn _).symm (fun j hj => upto_snoc n _ _ rfl j hj) tellHp_nil)) (tellFr_row rfl rfl (tellFr_v rfl rfl (tellFr_row rfl rfl (tellFr_v rfl (congrArg (Value.int .i64) hwi) trivial)))), by show W.length - (i + 1) < W.length - i; omega⟩
    · obtain rfl : i = W.length := by omega
      have hn2 : numsW (W.drop 1) = some n := by rw [← hn, List.take_of_length_le (by rw [List.length_drop]; omega)]
      rw [hn2] at hV
      simp only at hV
      refine bsplit_of_false (decide_eq_false (show ¬ (W.length : Int) < (W.length : Int) by omega)) ?_
      rw [if_neg (by omega)] at hV
      repeat' (first | refine bsplit_true ?_ | refine bsplit_false ?_)
      refine ask_intro ⟨by decide, by decide⟩ ?_
      repeat' (first | refine bsplit_true ?_ | refine bsplit_false ?_)
      refine ask_intro (by decide) ?_
      repeat' (first | refine bsplit_true ?_ | refine bsplit_false ?_)
      by_cases hw1 : n.length = 2
      · rw [if_pos (by rw [hK]; unfold wantOK; simp [hw1]), hK] at hV
        subst hV
        refine bsplit_of_false (show ((n.length : Int) != 2) = false by rw [hw1]; rfl) ?_
        repeat' (first | refine bsplit_true ?_ | refine bsplit_false ?_)
        exact ⟨⟨rfl, ⟨rfl, rfl, rfl, fun j hj => ⟨rfl, rfl⟩⟩, rfl, trivial⟩, rfl⟩
      · rw [if_neg (by rw [hK]; unfold wantOK; simp [hw1])] at hV
        subst hV
        refine bsplit_of_true (show ((n.length : Int) != 2) = true by rw [bne_iff_ne]; omega) ?_
        repeat' (first | refine bsplit_true ?_ | refine bsplit_false ?_)
        exact ⟨⟨rfl, rfl, rfl, trivial⟩, rfl⟩
set_option maxHeartbeats 3200000 in
theorem c_spec_l6Words_3 (t : List UInt8) (ht : t.length ≤ 1000000) (hK : kindW ((cutL 32 t).getD 0 []) = 3) : FnOK Tryz.prog 16 [dT t] (wordsR (wordsW t)) := by
  have cc := c_spec_l6Cut t 32 ht
  have hWl := cutL_len 32 t
  have hWm := cutL_memlen 32 t
  obtain ⟨V, hV⟩ : ∃ V, V = wordsW t := ⟨_, rfl⟩
  rw [← hV]
  unfold wordsW at hV
  generalize cutL 32 t = W at *
  have hcn : ∀ i, i < W.length → FnOK Tryz.prog 31 [dT (W.getD i [])] (numR (W.getD i [])) := fun i hi => c_spec_l6Number _ (Nat.le_trans (hWm _ (by rw [getD_at _ hi]; exact List.getElem_mem hi)) ht)
  refine fn_of lv16 Tryz.func16 rfl rfl (by kernel_rfl) rfl ?_
  refine .inl ⟨_, _, rfl, cc, rfl, ?_⟩
  refine ⟨{ x : Nat × Int // x.1 ≤ 4 ∧ x.2 = kU x.1 (W.getD 0 []) }, fun x => ⟨frL [(5, .row 11), (6, .row 12), (7, di x.1.2), (8, di x.1.1)], hpL [(11, txE W), (12, txE wNames)], 100, 0⟩, fun x => 4 - x.1.1, ⟨(0, -1), Nat.zero_le _, by unfold kU; simp⟩,
    le_of [(11, 4128), (12, 8192)] rfl rfl rfl rfl (tellHp_row rfl rfl rfl (fun j hj => rfl) (tellHp_row rfl rfl rfl (fun j hj => names_row j hj) tellHp_nil)) (tellFr_row rfl rfl (tellFr_row rfl rfl (tellFr_v rfl rfl (tellFr_v rfl rfl trivial)))), ?_⟩
  rintro ⟨⟨i, k⟩, hi, hk⟩
  simp only at hi hk
  by_cases h : i < 4
  · have hwi : IntKind.i64.wrap ((i : Int) + 1) = ((i + 1 : Nat) : Int) := wrap_i64 (i + 1) (by omega) (by omega)
    refine bsplit_of_true (decide_eq_true (show (i : Int) < 4 by omega)) ?_
    refine ask_intro ⟨by show (0 : Int) ≤ (i : Int); omega, by show (i : Int) < 4; omega⟩ ?_
    refine ask_intro (show i < 4 by omega) ?_
    refine ask_intro ⟨by decide, by show (0 : Int) < (W.length : Int); omega⟩ ?_
    refine ask_intro (show 0 < W.length by omega) ?_
    refine chk_intro (by kernel_rfl) ?_
    by_cases hh : wNames.getD i [] = W.getD 0 []
    · refine bsplit_of_true (show ((tx (wNames.getD i [])).toList == (tx (W.getD 0 [])).toList) = true by rw [tx_beq, decide_eq_true hh]) ?_
      exact ⟨⟨(i + 1, (i : Int)), by show i + 1 ≤ 4; omega, (kU_hit _ i h hh).symm⟩,
        le_of [(11, 11), (12, 12)] rfl rfl rfl rfl (tellHp_row rfl rfl rfl (fun j hj => rfl) (tellHp_row rfl rfl rfl (fun j hj => rfl) tellHp_nil)) (tellFr_row rfl rfl (tellFr_row rfl rfl (tellFr_v rfl rfl (tellFr_v rfl (congrArg (Value.int .i64) hwi) trivial)))), by show 4 - (i + 1) < 4 - i; omega⟩
    · refine bsplit_of_false (show ((tx (wNames.getD i [])).toList == (tx (W.getD 0 [])).toList) = false by rw [tx_beq, decide_eq_false hh]) ?_
      exact ⟨⟨(i + 1, k), by show i + 1 ≤ 4; omega, hk.trans (kU_miss _ i h hh).symm⟩,
        le_of [(11, 11), (12, 12)] rfl rfl rfl rfl (tellHp_row rfl rfl rfl (fun j hj => rfl) (tellHp_row rfl rfl rfl (fun j hj => rfl) tellHp_nil)) (tellFr_row rfl rfl (tellFr_row rfl rfl (tellFr_v rfl rfl (tellFr_v rfl (congrArg (Value.int .i64) hwi) trivial)))), by show 4 - (i + 1) < 4 - i; omega⟩
  · obtain rfl : i = 4 := by omega
    have hkK : k = 3 := by rw [hk, kU_4, hK]
    refine bsplit_of_false (decide_eq_false (show ¬ ((4 : Nat) : Int) < 4 by omega)) ?_
    refine ⟨{ x : Nat × List Int // 1 ≤ x.1 ∧ x.1 ≤ W.length ∧ x.2.length = x.1 - 1 ∧ numsW ((W.drop 1).take (x.1 - 1)) = some x.2 }, fun x => ⟨frL [(5, .row 11), (7, di 3), (9, .row 13), (10, di x.1.1)], hpL [(11, txE W), (13, rowE x.1.2)], 100, 0⟩, fun x => W.length - x.1.1, ⟨(1, []), Nat.le_refl _, hWl.1, rfl, rfl⟩,
      le_of [(11, 11), (13, 4196)] rfl rfl rfl rfl (tellHp_row rfl rfl rfl (fun j hj => rfl) (tellHp_row rfl rfl rfl (fun j hj => absurd hj (Nat.not_lt_zero _)) tellHp_nil)) (tellFr_row rfl rfl (tellFr_v rfl (congrArg (Value.int .i64) hkK) (tellFr_row rfl rfl (tellFr_v rfl rfl trivial)))), ?_⟩
    rintro ⟨⟨i, n⟩, h1, hi, hln, hn⟩
    simp only at h1 hi hln hn
    by_cases h : i < W.length
    · have hwi : IntKind.i64.wrap ((i : Int) + 1) = ((i + 1 : Nat) : Int) := wrap_i64 (i + 1) (by omega) (by omega)
      have cn := hcn i h
      have hsn : ∀ v : Int, (n ++ [v]).length = n.length + 1 := fun v => by simp
      refine bsplit_of_true (decide_eq_true (show (i : Int) < (W.length : Int) by omega)) ?_
      refine ask_intro ⟨by show (0 : Int) ≤ (i : Int); omega, by show (i : Int) < (W.length : Int); omega⟩ ?_
      refine ask_intro (show i < W.length by omega) ?_
      refine .inl ⟨_, _, rfl, cn, rfl, ?_⟩
      by_cases hx : numW (W.getD i []) = none
      · rw [nums_fail W h1 h hn hx] at hV
        subst hV
        refine bsplit_of_true (show (!(numW (W.getD i [])).isSome) = true by rw [hx]; rfl) ?_
        exact ⟨⟨rfl, rfl, rfl, trivial⟩, rfl⟩
      · obtain ⟨v, hv⟩ := Option.ne_none_iff_exists'.1 hx
        have hvv : numV (W.getD i []) = v := by unfold numV; rw [hv]; rfl
        refine bsplit_of_false (show (!(numW (W.getD i [])).isSome) = false by rw [hv]; rfl) ?_
        refine ask_intro ⟨by show (n.length + 1) * 8 ≤ 140737488355328; omega, by show n.length + 1 ≤ 9223372036854775807; omega, fun j hj => by obtain rfl : j = 0 := (by omega); rfl⟩ ?_
        exact ⟨⟨(i + 1, n ++ [numV (W.getD i [])]), by show 1 ≤ i + 1; omega, by show i + 1 ≤ W.length; omega, by show (n ++ [numV (W.getD i [])]).length = i + 1 - 1; rw [hsn]; omega, by show numsW _ = some (n ++ [numV (W.getD i [])]); rw [hvv]; exact nums_more W h1 h hn hv⟩,
          le_of [(11, 11), (13, 12484)] rfl rfl rfl rfl (tellHp_row rfl rfl rfl (fun j hj => rfl) (tellHp_row rfl rfl (hsn _).symm (fun j hj => upto_snoc n _ _ rfl j hj) tellHp_nil)) (tellFr_row rfl rfl (tellFr_v rfl rfl (tellFr_row rfl rfl (tellFr_v rfl (congrArg (Value.int .i64) hwi) trivial)))), by show W.length - (i + 1) < W.length - i; omega⟩
    · obtain rfl : i = W.length := by omega
      have hn2 : numsW (W.drop 1) = some n := by rw [← hn, List.take_of_length_le (by rw [List.length_drop]; omega)]
      rw [hn2] at hV
      simp only at hV
      refine bsplit_of_false (decide_eq_false (show ¬ (W.length : Int) < (W.length : Int) by omega)) ?_
      rw [if_neg (by omega)] at hV
      repeat' (first | refine bsplit_true ?_ | refine bsplit_false ?_)
      refine ask_intro ⟨by decide, by decide⟩ ?_
      repeat' (first | refine bsplit_true ?_ | refine bsplit_false ?_)
      refine ask_intro (by decide) ?_
      repeat' (first | refine bsplit_true ?_ | refine bsplit_false ?_)
      by_cases hw1 : n.length = 2
      · rw [if_pos (by rw [hK]; unfold wantOK; simp [hw1]), hK] at hV
        subst hV
        refine bsplit_of_false (show ((n.length : Int) != 2) = false by rw [hw1]; rfl) ?_
        repeat' (first | refine bsplit_true ?_ | refine bsplit_false ?_)
        exact ⟨⟨rfl, ⟨rfl, rfl, rfl, fun j hj => ⟨rfl, rfl⟩⟩, rfl, trivial⟩, rfl⟩
      · rw [if_neg (by rw [hK]; unfold wantOK; simp [hw1])] at hV
        subst hV
        refine bsplit_of_true (show ((n.length : Int) != 2) = true by rw [bne_iff_ne]; omega) ?_
        repeat' (first | refine bsplit_true ?_ | refine bsplit_false ?_)
        exact ⟨⟨rfl, rfl, rfl, trivial⟩, rfl⟩
theorem c_spec_l6Words (t : List UInt8) (ht : t.length ≤ 1000000) : FnOK Tryz.prog 16 [dT t] (wordsR (wordsW t)) := by
  have h := kindW_in ((cutL 32 t).getD 0 [])
  by_cases hm : kindW ((cutL 32 t).getD 0 []) = -1
  · exact c_spec_l6Words_m t ht hm
  by_cases h0 : kindW ((cutL 32 t).getD 0 []) = 0
  · exact c_spec_l6Words_0 t ht h0
  by_cases h1 : kindW ((cutL 32 t).getD 0 []) = 1
  · exact c_spec_l6Words_1 t ht h1
  by_cases h2 : kindW ((cutL 32 t).getD 0 []) = 2
  · exact c_spec_l6Words_2 t ht h2
  exact c_spec_l6Words_3 t ht (by omega)
end Go.Proofs.YtojaakpnpdnbhaaGreatDoor.L

/- What is wrong with a policy: the reference's contracts on lanes, bells and the plan. -/
set_option linter.unusedVariables false
set_option linter.unusedSimpArgs false
set_option maxRecDepth 100000
namespace Go.Proofs.YtojaakpnpdnbhaaGreatDoor.L
open Go.RowKit
def lanesFault (x : PolM) : Int := bif decide (x.lns.length > 4) || decide (x.bls.length > 4) then 2 else lanesBad x.own [] x.lns
theorem getD_take {α : Type} (d : α) (l : List α) (i k : Nat) (h : k < i) : (l.take i).getD k d = l.getD k d := by simp [List.getD, List.getElem?_take, h]
set_option maxHeartbeats 1600000 in
theorem c_spec_l6Lanes (x : PolM) (hs : x.small) : FnOK Tryz.prog 33 [polP x] (ri (lanesFault x)) := by
  have hl := hs.lns
  generalize hv : lanesFault x = v
  unfold lanesFault at hv
  refine fn_of lv33 Tryz.func33 rfl rfl (by kernel_rfl) rfl ?_
  refine bsplit_intro (fun h1 => ?_) (fun h1 => ?_)
  · repeat' (first | refine bsplit_true ?_ | refine bsplit_false ?_)
    have h1 : decide ((x.lns.length : Int) > 4) = true := h1
    rw [show decide (x.lns.length > 4) = true from decide_eq_true (by have := of_decide_eq_true h1; omega), Bool.true_or, cond_true] at hv
    exact ⟨⟨congrArg (Value.int .i64) hv, trivial⟩, rfl⟩
  have h1 : decide ((x.lns.length : Int) > 4) = false := h1
  rw [show decide (x.lns.length > 4) = false from decide_eq_false (by have := of_decide_eq_false h1; omega), Bool.false_or] at hv
  repeat' (first | refine bsplit_true ?_ | refine bsplit_false ?_)
  refine bsplit_intro (fun h2 => ?_) (fun h2 => ?_)
  · have h2 : decide ((x.bls.length : Int) > 4) = true := h2
    rw [show decide (x.bls.length > 4) = true from decide_eq_true (by have := of_decide_eq_true h2; omega), cond_true] at hv
    exact ⟨⟨congrArg (Value.int .i64) hv, trivial⟩, rfl⟩
  have h2 : decide ((x.bls.length : Int) > 4) = false := h2
  rw [show decide (x.bls.length > 4) = false from decide_eq_false (by have := of_decide_eq_false h2; omega), cond_false] at hv
  refine ⟨{ i : Nat // i ≤ x.lns.length ∧ lanesBad x.own (x.lns.take i) (x.lns.drop i) = v }, fun i => ⟨frL [(0, polP x), (3, di i.1)], hpL [], 96, 0⟩, fun i => x.lns.length - i.1, ⟨0, by omega, hv⟩,
    le_of [] rfl rfl rfl rfl trivial (tellFr_x rfl ⟨DLe.refl _, DLe.refl _, DLe.refl _, DLe.refl _, trivial⟩ (tellFr_v rfl rfl trivial)), ?_⟩
  rintro ⟨i, hi, hall⟩
  by_cases h3 : i < x.lns.length
  rotate_left
  · rw [List.drop_eq_nil_of_le (by omega)] at hall
    refine bsplit_of_false (decide_eq_false (by show ¬ (i : Int) < (x.lns.length : Int); omega)) ?_
    exact ⟨⟨congrArg (Value.int .i64) hall, trivial⟩, rfl⟩
  rw [lanes_step _ _ _ h3] at hall
  have e9 : (x.lns.getD i ⟨0, 0, 0, 0, 0⟩) = x.lns.getD (i : Int).toNat ⟨0, 0, 0, 0, 0⟩ := rfl
  obtain ⟨m, hm⟩ : ∃ m, m = x.lns.getD i ⟨0, 0, 0, 0, 0⟩ := ⟨_, rfl⟩
  have c1 := c_spec_l6Ends x hs (x.lns.getD i ⟨0, 0, 0, 0, 0⟩).frm (x.lns.getD i ⟨0, 0, 0, 0, 0⟩).to
  have c2 := c_spec_l1In (x.lns.getD i ⟨0, 0, 0, 0, 0⟩).page 0 23
  have c3 := c_spec_l1In (x.lns.getD i ⟨0, 0, 0, 0, 0⟩).af 5 6
  have c4 := c_spec_l1In (x.lns.getD i ⟨0, 0, 0, 0, 0⟩).at_ 5 6
  have c5 := c_spec_l6Owner x hs (x.lns.getD i ⟨0, 0, 0, 0, 0⟩).page
  obtain ⟨b, hb⟩ : ∃ b, b = laneBad x.own (x.lns.getD i ⟨0, 0, 0, 0, 0⟩) (x.lns.take i) := ⟨_, rfl⟩
  rw [← hb] at hall
  unfold laneBad at hb
  generalize endsF x.own.length (x.lns.getD i ⟨0, 0, 0, 0, 0⟩).frm (x.lns.getD i ⟨0, 0, 0, 0, 0⟩).to = e at hb c1
  generalize inR (x.lns.getD i ⟨0, 0, 0, 0, 0⟩).page 0 23 = p1 at hb c2
  generalize inR (x.lns.getD i ⟨0, 0, 0, 0, 0⟩).af 5 6 = p2 at hb c3
  generalize inR (x.lns.getD i ⟨0, 0, 0, 0, 0⟩).at_ 5 6 = p3 at hb c4
  generalize ownerP x.own (x.lns.getD i ⟨0, 0, 0, 0, 0⟩).page = ow at hb c5
  have stop : ∀ r : Int, b = r → r ≠ 0 → r = v := fun r e1 e2 => by rw [e1, if_neg e2] at hall; exact hall
  refine bsplit_of_true (decide_eq_true (by show (i : Int) < (x.lns.length : Int); omega)) ?_
  refine ask_intro ⟨by omega, by show (i : Int) < (x.lns.length : Int); omega, rfl⟩ ?_
  refine .inl ⟨_, _, rfl, c1, rfl, ?_⟩
  refine bsplit_intro (fun h4 => ?_) (fun h4 => ?_)
  · have h4 : ¬ e = 0 := by simpa using h4
    rw [if_neg h4] at hb
    exact ⟨⟨congrArg (Value.int .i64) (stop e hb h4), trivial⟩, rfl⟩
  have h4 : e = 0 := by simpa using h4
  rw [if_pos h4] at hb
  by_cases hbad : (!p1 || (!p2 || !p3)) = true
  · rw [hbad, cond_true] at hb
    have h3v := stop 3 hb (by decide)
    refine .inl ⟨_, _, rfl, c2, rfl, ?_⟩
    repeat' (first | refine bsplit_true ?_ | refine bsplit_false ?_ | refine .inl ⟨_, _, rfl, c3, rfl, ?_⟩ | refine .inl ⟨_, _, rfl, c4, rfl, ?_⟩ | refine bsplit_intro (fun h => ?_) (fun h => ?_))
    all_goals first
      | exact ⟨⟨congrArg (Value.int .i64) h3v, trivial⟩, rfl⟩
      | (exfalso; clear hall hb c1 c2 c3 c4 c5; simp_all; done)
  have hbad : (!p1 || (!p2 || !p3)) = false := by simpa using hbad
  rw [hbad, cond_false] at hb
  obtain ⟨rfl, rfl, rfl⟩ : p1 = true ∧ p2 = true ∧ p3 = true := by cases p1 <;> cases p2 <;> cases p3 <;> simp_all
  refine .inl ⟨_, _, rfl, c2, rfl, ?_⟩
  repeat' (first | refine bsplit_true ?_ | refine bsplit_false ?_)
  refine .inl ⟨_, _, rfl, c3, rfl, ?_⟩
  repeat' (first | refine bsplit_true ?_ | refine bsplit_false ?_)
  refine .inl ⟨_, _, rfl, c4, rfl, ?_⟩
  repeat' (first | refine bsplit_true ?_ | refine bsplit_false ?_)
  refine .inl ⟨_, _, rfl, c5, rfl, ?_⟩
  refine bsplit_intro (fun h5 => ?_) (fun h5 => ?_)
  · have h5 : decide (ow ≥ 0) = true := h5
    rw [h5, Bool.true_or] at hb
    exact ⟨⟨congrArg (Value.int .i64) (stop 6 hb (by decide)), trivial⟩, rfl⟩
  have h5 : decide (ow ≥ 0) = false := h5
  rw [h5, Bool.false_or] at hb
  have hlt : (x.lns.take i).length = i := by rw [List.length_take]; omega
  refine ⟨{ k : Nat // k ≤ i ∧ ((x.lns.take i).drop k).any (clash (x.lns.getD i ⟨0, 0, 0, 0, 0⟩)) = (x.lns.take i).any (clash (x.lns.getD i ⟨0, 0, 0, 0, 0⟩)) },
    fun k => ⟨frL [(0, polP x), (3, di i), (4, .ptr 64 0), (6, di k.1)], hpL [(64, .box 55 [di (x.lns.getD i ⟨0, 0, 0, 0, 0⟩).frm, di (x.lns.getD i ⟨0, 0, 0, 0, 0⟩).to, di (x.lns.getD i ⟨0, 0, 0, 0, 0⟩).page, di (x.lns.getD i ⟨0, 0, 0, 0, 0⟩).af, di (x.lns.getD i ⟨0, 0, 0, 0, 0⟩).at_])], 96, 0⟩, fun k => i - k.1, ⟨0, by omega, by rw [List.drop_zero]⟩,
    le_of [(64, 4416)] rfl rfl rfl rfl (tellHp_box rfl rfl ⟨rfl, rfl, rfl, rfl, rfl, trivial⟩ tellHp_nil) (tellFr_x rfl ⟨DLe.refl _, DLe.refl _, DLe.refl _, DLe.refl _, trivial⟩ (tellFr_v rfl rfl (tellFr_ptr rfl rfl (tellFr_v rfl rfl trivial)))), ?_⟩
  rintro ⟨k, hk, hall2⟩
  by_cases h6 : k < i
  rotate_left
  · rw [List.drop_eq_nil_of_le (by omega)] at hall2
    rw [← hall2] at hb
    have hb : b = 0 := hb
    rw [if_pos hb] at hall
    refine bsplit_of_false (decide_eq_false (by show ¬ (k : Int) < (i : Int); omega)) ?_
    exact ⟨⟨i + 1, by omega, hall⟩, le_of [] rfl rfl rfl rfl trivial (tellFr_x rfl ⟨DLe.refl _, DLe.refl _, DLe.refl _, DLe.refl _, trivial⟩ (tellFr_v rfl (congrArg (Value.int .i64) (wrap1 h3 (by omega))) trivial)), by show x.lns.length - (i + 1) < x.lns.length - i; omega⟩
  rw [drop_anyG ⟨0, 0, 0, 0, 0⟩ _ _ k (by omega), getD_take _ _ _ _ h6] at hall2
  have d1 := c_spec_l6At (x.lns.getD k ⟨0, 0, 0, 0, 0⟩) (x.lns.getD i ⟨0, 0, 0, 0, 0⟩).frm (x.lns.getD i ⟨0, 0, 0, 0, 0⟩).af
  have d2 := c_spec_l6At (x.lns.getD k ⟨0, 0, 0, 0, 0⟩) (x.lns.getD i ⟨0, 0, 0, 0, 0⟩).to (x.lns.getD i ⟨0, 0, 0, 0, 0⟩).at_
  obtain ⟨q, hq⟩ : ∃ q, q = clash (x.lns.getD i ⟨0, 0, 0, 0, 0⟩) (x.lns.getD k ⟨0, 0, 0, 0, 0⟩) := ⟨_, rfl⟩
  rw [← hq] at hall2
  unfold clash at hq
  generalize sitsB (x.lns.getD k ⟨0, 0, 0, 0, 0⟩) (x.lns.getD i ⟨0, 0, 0, 0, 0⟩).frm (x.lns.getD i ⟨0, 0, 0, 0, 0⟩).af = s1 at hq d1
  generalize sitsB (x.lns.getD k ⟨0, 0, 0, 0, 0⟩) (x.lns.getD i ⟨0, 0, 0, 0, 0⟩).to (x.lns.getD i ⟨0, 0, 0, 0, 0⟩).at_ = s2 at hq d2
  have hit : q = true → 6 = v := fun e => by
    rw [e, Bool.true_or] at hall2
    rw [← hall2] at hb
    exact stop 6 hb (by decide)
  refine bsplit_of_true (decide_eq_true (by show (k : Int) < (i : Int); omega)) ?_
  refine ask_intro ⟨by omega, by show (k : Int) < (x.lns.length : Int); omega, rfl⟩ ?_
  cases q with
  | true =>
    have h6v := hit rfl
    repeat' (first | refine bsplit_true ?_ | refine bsplit_false ?_ | refine .inl ⟨_, _, rfl, d1, rfl, ?_⟩ | refine .inl ⟨_, _, rfl, d2, rfl, ?_⟩ | refine bsplit_intro (fun h => ?_) (fun h => ?_))
    all_goals first
      | exact ⟨⟨congrArg (Value.int .i64) h6v, trivial⟩, rfl⟩
      | (exfalso; clear hall hall2 hb hit c1 c2 c3 c4 c5 d1 d2; simp_all; done)
  | false =>
    rw [Bool.false_or] at hall2
    have hq := hq.symm
    rw [Bool.or_eq_false_iff, Bool.or_eq_false_iff] at hq
    obtain ⟨g1, rfl, rfl⟩ := hq
    refine bsplit_of_false g1 ?_
    repeat' (first | refine bsplit_true ?_ | refine bsplit_false ?_)
    refine .inl ⟨_, _, rfl, d1, rfl, ?_⟩
    repeat' (first | refine bsplit_true ?_ | refine bsplit_false ?_)
    refine .inl ⟨_, _, rfl, d2, rfl, ?_⟩
    repeat' (first | refine bsplit_true ?_ | refine bsplit_false ?_)
    exact ⟨⟨k + 1, by omega, hall2⟩, le_of [(64, 64)] rfl rfl rfl rfl (tellHp_box rfl rfl ⟨rfl, rfl, rfl, rfl, rfl, trivial⟩ tellHp_nil) (tellFr_x rfl ⟨DLe.refl _, DLe.refl _, DLe.refl _, DLe.refl _, trivial⟩ (tellFr_v rfl rfl (tellFr_ptr rfl rfl (tellFr_v rfl (congrArg (Value.int .i64) (wrap1 (Nat.lt_trans h6 h3) (by omega))) trivial)))), by show i - (k + 1) < i - k; omega⟩
end Go.Proofs.YtojaakpnpdnbhaaGreatDoor.L
