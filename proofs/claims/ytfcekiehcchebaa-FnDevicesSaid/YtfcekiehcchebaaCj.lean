/- What the functions compute that set a number of a machine: contracts. -/
import Derived.Test.YtfcekiehcchebaaCi
set_option linter.unusedVariables false
set_option linter.unusedSimpArgs false
set_option maxRecDepth 100000
namespace Go.Proofs.Ytfcekiehcchebaa.L
open Go.RowKit
def wrapW (n : Int) : Int := n % 4294967296
theorem wrapW_le (n : Int) : 0 ≤ wrapW n ∧ wrapW n ≤ 4294967295 := by unfold wrapW; omega
theorem and_mask (a : Int) : IntKind.i64.wrap (BitVec.ofInt IntKind.i64.bits a &&& BitVec.ofInt IntKind.i64.bits 4294967295).toNat = wrapW a := by
  have e : (BitVec.ofInt IntKind.i64.bits a &&& BitVec.ofInt IntKind.i64.bits 4294967295).toNat = (a % 18446744073709551616).toNat % 4294967296 := by
    rw [BitVec.toNat_and, BitVec.toNat_ofInt, BitVec.toNat_ofInt]
    show (a % 18446744073709551616).toNat &&& (2 ^ 32 - 1) = _
    rw [Nat.and_two_pow_sub_one_eq_mod]
  rw [e]
  unfold wrapW
  have : (((a % 18446744073709551616).toNat % 4294967296 : Nat) : Int) = a % 4294967296 := by omega
  rw [this]
  exact wrap_i64 _ (by omega) (by omega)
theorem wrap_u32 (a : Int) : IntKind.u32.wrap a = a % 4294967296 := by
  simp [IntKind.wrap, IntKind.bits, IntKind.signed]
theorem c_spec_WrapWord (n : Int) : FnOK Try.prog 122 [di n] (ri (wrapW n)) := by
  refine fn_of lv122 Try.func122 rfl rfl (by kernel_rfl) rfl ?_
  refine ⟨⟨congrArg (Value.int .i64) ?_, trivial⟩, rfl⟩
  first
    | exact and_mask n
    | (show IntKind.i64.wrap (IntKind.u32.wrap n) = _
       rw [wrap_u32]
       exact wrap_i64 _ (by omega) (by omega))
theorem c_impl_WrapWord (n : Int) : FnOK Try.prog 124 [di n] (ri (wrapW n)) := by
  refine fn_of lv124 Try.func124 rfl rfl (by kernel_rfl) rfl ?_
  refine ⟨⟨congrArg (Value.int .i64) ?_, trivial⟩, rfl⟩
  first
    | exact and_mask n
    | (show IntKind.i64.wrap (IntKind.u32.wrap n) = _
       rw [wrap_u32]
       exact wrap_i64 _ (by omega) (by omega))
def setCsrL (m : HartM) (k v : Int) : HartM := { m with csr := m.csr.set k.toNat v }
def setM (m : HartM) (k w0 : Int) : HartM :=
  if k = 0 then setCsrL m k (Int.tmod (wrapW w0) 4) else if k = 7 then setCsrL m k (Int.tmod (wrapW w0) 8) else if k = 10 then setCsrL m k (if wrapW w0 ≤ 8 then wrapW w0 else 0)
  else if k = 6 then { m with rung := m.rung && decide (Int.tmod (wrapW w0) 4 < 2) } else if k = 8 then m else setCsrL m k (wrapW w0)
theorem c_spec_l8Set (m : HartM) (k w : Int) (hc : m.csr.length = 11) (hk : inR k 0 10 = true) : MutOK Try.prog 123 [.ptr 0 0, di k, di w] 5 (hMem m) (.tup []) 5 (hMem (setM m k w)) := by
  rw [inR_iff] at hk
  refine mut_fn_of lv123 Try.func123 rfl rfl (by kernel_rfl) rfl [] ?_
  refine .inl ⟨_, _, rfl, c_spec_WrapWord w, rfl, ?_⟩
  generalize hm : setM m k w = m'
  unfold setM at hm
  have fin : ∀ v : Int, (m.csr.length = (setCsrL m k v).csr.length) ∧ ∀ j, (if j = k.toNat then splice (intsF m.csr j) 0 [D.v (.int .i64 v)] else intsF m.csr j) = intsF (setCsrL m k v).csr j :=
    fun v => ⟨by simp [setCsrL], fun j => set_at rfl (by omega)⟩
  repeat' (first | refine bsplit_true ?_ | refine bsplit_false ?_)
  refine bsplit_intro (fun h => ?_) (fun h => ?_)
  · rw [if_pos (by simpa using h)] at hm
    subst hm
    (repeat' (first | refine ask_intro ?_ ?_ | refine chk_intro (by kernel_rfl) ?_)) <;> (try (first | omega | decide))
    exact ⟨trivial, tellHp_box rfl rfl ⟨rfl, rfl, rfl, rfl, rfl, rfl, rfl, rfl, rfl, trivial⟩ (tellHp_row rfl rfl rfl (fun j hj => rfl) (tellHp_row rfl rfl (fin _).1 (fun j hj => (fin _).2 j) (tellHp_row rfl rfl rfl (fun j hj => rfl) (tellHp_row rfl rfl rfl (fun j hj => rfl) tellHp_nil))))⟩
  rw [if_neg (by simpa using h)] at hm
  refine bsplit_intro (fun h => ?_) (fun h => ?_)
  · rw [if_pos (by simpa using h)] at hm
    subst hm
    (repeat' (first | refine ask_intro ?_ ?_ | refine chk_intro (by kernel_rfl) ?_)) <;> (try (first | omega | decide))
    exact ⟨trivial, tellHp_box rfl rfl ⟨rfl, rfl, rfl, rfl, rfl, rfl, rfl, rfl, rfl, trivial⟩ (tellHp_row rfl rfl rfl (fun j hj => rfl) (tellHp_row rfl rfl (fin _).1 (fun j hj => (fin _).2 j) (tellHp_row rfl rfl rfl (fun j hj => rfl) (tellHp_row rfl rfl rfl (fun j hj => rfl) tellHp_nil))))⟩
  rw [if_neg (by simpa using h)] at hm
  refine bsplit_intro (fun h => ?_) (fun h => ?_)
  · rw [if_pos (by simpa using h)] at hm
    (repeat' (first | refine ask_intro ?_ ?_ | refine chk_intro (by kernel_rfl) ?_)) <;> (try (first | omega | decide))
    refine bsplit_intro (fun h2 => ?_) (fun h2 => ?_)
    · rw [if_pos (by simpa using h2)] at hm
      subst hm
      (repeat' (first | refine ask_intro ?_ ?_ | refine chk_intro (by kernel_rfl) ?_)) <;> (try (first | omega | decide))
      refine ⟨trivial, tellHp_box rfl rfl ⟨rfl, rfl, rfl, rfl, rfl, rfl, rfl, rfl, rfl, trivial⟩ (tellHp_row rfl rfl rfl (fun j hj => rfl) (tellHp_row rfl rfl (fin _).1 (fun j hj => ?_) (tellHp_row rfl rfl rfl (fun j hj => rfl) (tellHp_row rfl rfl rfl (fun j hj => rfl) tellHp_nil))))⟩
      refine (set_at (l := m.csr.set k.toNat 0) (set_at rfl (by omega)) (by simp; omega)).trans ?_
      show intsF _ j = intsF (m.csr.set k.toNat (wrapW w)) j
      rw [List.set_set]
    · rw [if_neg (by simpa using h2)] at hm
      subst hm
      (repeat' (first | refine ask_intro ?_ ?_ | refine chk_intro (by kernel_rfl) ?_)) <;> (try (first | omega | decide))
      exact ⟨trivial, tellHp_box rfl rfl ⟨rfl, rfl, rfl, rfl, rfl, rfl, rfl, rfl, rfl, trivial⟩ (tellHp_row rfl rfl rfl (fun j hj => rfl) (tellHp_row rfl rfl (fin _).1 (fun j hj => (fin _).2 j) (tellHp_row rfl rfl rfl (fun j hj => rfl) (tellHp_row rfl rfl rfl (fun j hj => rfl) tellHp_nil))))⟩
  rw [if_neg (by simpa using h)] at hm
  refine bsplit_intro (fun h => ?_) (fun h => ?_)
  · rw [if_pos (by simpa using h)] at hm
    subst hm
    (repeat' (first | refine ask_intro ?_ ?_ | refine chk_intro (by kernel_rfl) ?_)) <;> (try (first | omega | decide))
    refine bsplit_intro (fun h2 => ?_) (fun h2 => ?_) <;> (repeat' (first | refine bsplit_true ?_ | refine bsplit_false ?_ | refine ask_intro ?_ ?_ | refine chk_intro (by kernel_rfl) ?_)) <;> (try (first | omega | decide))
    all_goals
      refine ⟨trivial, tellHp_box rfl rfl ⟨rfl, rfl, rfl, rfl, rfl, congrArg Value.bool ?_, rfl, rfl, rfl, trivial⟩ (tellHp_row rfl rfl rfl (fun j hj => rfl) (tellHp_row rfl rfl rfl (fun j hj => rfl) (tellHp_row rfl rfl rfl (fun j hj => rfl) (tellHp_row rfl rfl rfl (fun j hj => rfl) tellHp_nil))))⟩
      first
        | (simp [h2]; done)
        | (have h3 : ¬ (wrapW w).tmod 4 < 2 := by (simp at h2; omega)
           simp [h3]; done)
        | (have h3 : (wrapW w).tmod 4 < 2 := by (simp at h2; omega)
           simp [h3]; done)
  rw [if_neg (by simpa using h)] at hm
  refine bsplit_intro (fun h => ?_) (fun h => ?_)
  · rw [if_pos (by simpa using h)] at hm
    subst hm
    (repeat' (first | refine ask_intro ?_ ?_ | refine chk_intro (by kernel_rfl) ?_)) <;> (try (first | omega | decide))
    exact ⟨trivial, tellHp_box rfl rfl ⟨rfl, rfl, rfl, rfl, rfl, rfl, rfl, rfl, rfl, trivial⟩ (tellHp_row rfl rfl rfl (fun j hj => rfl) (tellHp_row rfl rfl rfl (fun j hj => rfl) (tellHp_row rfl rfl rfl (fun j hj => rfl) (tellHp_row rfl rfl rfl (fun j hj => rfl) tellHp_nil))))⟩
  rw [if_neg (by simpa using h)] at hm
  subst hm
  (repeat' (first | refine ask_intro ?_ ?_ | refine chk_intro (by kernel_rfl) ?_)) <;> (try (first | omega | decide))
  exact ⟨trivial, tellHp_box rfl rfl ⟨rfl, rfl, rfl, rfl, rfl, rfl, rfl, rfl, rfl, trivial⟩ (tellHp_row rfl rfl rfl (fun j hj => rfl) (tellHp_row rfl rfl (fin _).1 (fun j hj => (fin _).2 j) (tellHp_row rfl rfl rfl (fun j hj => rfl) (tellHp_row rfl rfl rfl (fun j hj => rfl) tellHp_nil))))⟩
theorem c_impl_Hart_set (m : HartM) (k w : Int) (hc : m.csr.length = 11) (hk : inR k 0 10 = true) : MutOK Try.prog 125 [.ptr 0 0, di k, di w] 5 (hMem m) (.tup []) 5 (hMem (setM m k w)) := by
  rw [inR_iff] at hk
  refine mut_fn_of lv125 Try.func125 rfl rfl (by kernel_rfl) rfl [] ?_
  refine .inl ⟨_, _, rfl, c_impl_WrapWord w, rfl, ?_⟩
  generalize hm : setM m k w = m'
  unfold setM at hm
  have fin : ∀ v : Int, (m.csr.length = (setCsrL m k v).csr.length) ∧ ∀ j, (if j = k.toNat then splice (intsF m.csr j) 0 [D.v (.int .i64 v)] else intsF m.csr j) = intsF (setCsrL m k v).csr j :=
    fun v => ⟨by simp [setCsrL], fun j => set_at rfl (by omega)⟩
  repeat' (first | refine bsplit_true ?_ | refine bsplit_false ?_)
  refine bsplit_intro (fun h => ?_) (fun h => ?_)
  · rw [if_pos (by simpa using h)] at hm
    subst hm
    (repeat' (first | refine ask_intro ?_ ?_ | refine chk_intro (by kernel_rfl) ?_)) <;> (try (first | omega | decide))
    exact ⟨trivial, tellHp_box rfl rfl ⟨rfl, rfl, rfl, rfl, rfl, rfl, rfl, rfl, rfl, trivial⟩ (tellHp_row rfl rfl rfl (fun j hj => rfl) (tellHp_row rfl rfl (fin _).1 (fun j hj => (fin _).2 j) (tellHp_row rfl rfl rfl (fun j hj => rfl) (tellHp_row rfl rfl rfl (fun j hj => rfl) tellHp_nil))))⟩
  rw [if_neg (by simpa using h)] at hm
  refine bsplit_intro (fun h => ?_) (fun h => ?_)
  · rw [if_pos (by simpa using h)] at hm
    subst hm
    (repeat' (first | refine ask_intro ?_ ?_ | refine chk_intro (by kernel_rfl) ?_)) <;> (try (first | omega | decide))
    exact ⟨trivial, tellHp_box rfl rfl ⟨rfl, rfl, rfl, rfl, rfl, rfl, rfl, rfl, rfl, trivial⟩ (tellHp_row rfl rfl rfl (fun j hj => rfl) (tellHp_row rfl rfl (fin _).1 (fun j hj => (fin _).2 j) (tellHp_row rfl rfl rfl (fun j hj => rfl) (tellHp_row rfl rfl rfl (fun j hj => rfl) tellHp_nil))))⟩
  rw [if_neg (by simpa using h)] at hm
  refine bsplit_intro (fun h => ?_) (fun h => ?_)
  · rw [if_pos (by simpa using h)] at hm
    (repeat' (first | refine ask_intro ?_ ?_ | refine chk_intro (by kernel_rfl) ?_)) <;> (try (first | omega | decide))
    refine bsplit_intro (fun h2 => ?_) (fun h2 => ?_)
    · rw [if_pos (by simpa using h2)] at hm
      subst hm
      (repeat' (first | refine ask_intro ?_ ?_ | refine chk_intro (by kernel_rfl) ?_)) <;> (try (first | omega | decide))
      refine ⟨trivial, tellHp_box rfl rfl ⟨rfl, rfl, rfl, rfl, rfl, rfl, rfl, rfl, rfl, trivial⟩ (tellHp_row rfl rfl rfl (fun j hj => rfl) (tellHp_row rfl rfl (fin _).1 (fun j hj => ?_) (tellHp_row rfl rfl rfl (fun j hj => rfl) (tellHp_row rfl rfl rfl (fun j hj => rfl) tellHp_nil))))⟩
      refine (set_at (l := m.csr.set k.toNat 0) (set_at rfl (by omega)) (by simp; omega)).trans ?_
      show intsF _ j = intsF (m.csr.set k.toNat (wrapW w)) j
      rw [List.set_set]
    · rw [if_neg (by simpa using h2)] at hm
      subst hm
      (repeat' (first | refine ask_intro ?_ ?_ | refine chk_intro (by kernel_rfl) ?_)) <;> (try (first | omega | decide))
      exact ⟨trivial, tellHp_box rfl rfl ⟨rfl, rfl, rfl, rfl, rfl, rfl, rfl, rfl, rfl, trivial⟩ (tellHp_row rfl rfl rfl (fun j hj => rfl) (tellHp_row rfl rfl (fin _).1 (fun j hj => (fin _).2 j) (tellHp_row rfl rfl rfl (fun j hj => rfl) (tellHp_row rfl rfl rfl (fun j hj => rfl) tellHp_nil))))⟩
  rw [if_neg (by simpa using h)] at hm
  refine bsplit_intro (fun h => ?_) (fun h => ?_)
  · rw [if_pos (by simpa using h)] at hm
    subst hm
    (repeat' (first | refine ask_intro ?_ ?_ | refine chk_intro (by kernel_rfl) ?_)) <;> (try (first | omega | decide))
    refine bsplit_intro (fun h2 => ?_) (fun h2 => ?_) <;> (repeat' (first | refine bsplit_true ?_ | refine bsplit_false ?_ | refine ask_intro ?_ ?_ | refine chk_intro (by kernel_rfl) ?_)) <;> (try (first | omega | decide))
    all_goals
      refine ⟨trivial, tellHp_box rfl rfl ⟨rfl, rfl, rfl, rfl, rfl, congrArg Value.bool ?_, rfl, rfl, rfl, trivial⟩ (tellHp_row rfl rfl rfl (fun j hj => rfl) (tellHp_row rfl rfl rfl (fun j hj => rfl) (tellHp_row rfl rfl rfl (fun j hj => rfl) (tellHp_row rfl rfl rfl (fun j hj => rfl) tellHp_nil))))⟩
      first
        | (simp [h2]; done)
        | (have h3 : ¬ (wrapW w).tmod 4 < 2 := by (simp at h2; omega)
           simp [h3]; done)
        | (have h3 : (wrapW w).tmod 4 < 2 := by (simp at h2; omega)
           simp [h3]; done)
  rw [if_neg (by simpa using h)] at hm
  refine bsplit_intro (fun h => ?_) (fun h => ?_)
  · rw [if_pos (by simpa using h)] at hm
    subst hm
    (repeat' (first | refine ask_intro ?_ ?_ | refine chk_intro (by kernel_rfl) ?_)) <;> (try (first | omega | decide))
    exact ⟨trivial, tellHp_box rfl rfl ⟨rfl, rfl, rfl, rfl, rfl, rfl, rfl, rfl, rfl, trivial⟩ (tellHp_row rfl rfl rfl (fun j hj => rfl) (tellHp_row rfl rfl rfl (fun j hj => rfl) (tellHp_row rfl rfl rfl (fun j hj => rfl) (tellHp_row rfl rfl rfl (fun j hj => rfl) tellHp_nil))))⟩
  rw [if_neg (by simpa using h)] at hm
  subst hm
  (repeat' (first | refine ask_intro ?_ ?_ | refine chk_intro (by kernel_rfl) ?_)) <;> (try (first | omega | decide))
  exact ⟨trivial, tellHp_box rfl rfl ⟨rfl, rfl, rfl, rfl, rfl, rfl, rfl, rfl, rfl, trivial⟩ (tellHp_row rfl rfl rfl (fun j hj => rfl) (tellHp_row rfl rfl (fin _).1 (fun j hj => (fin _).2 j) (tellHp_row rfl rfl rfl (fun j hj => rfl) (tellHp_row rfl rfl rfl (fun j hj => rfl) tellHp_nil))))⟩
def setCsr (m : HartM) (k w : Int) : Int × HartM := if hFault m = 0 then (bif !inR k 0 10 then (3, hartZ) else (0, setM m k w)) else (hFault m, hartZ)
end Go.Proofs.Ytfcekiehcchebaa.L
