/- What the functions that ask a machine compute: contracts. -/
import Derived.Test.YtfcekiehcchebaaCb
set_option linter.unusedVariables false
set_option linter.unusedSimpArgs false
set_option maxRecDepth 100000
namespace Go.Proofs.Ytfcekiehcchebaa.L
open Go.RowKit
abbrev irR (p : Int × Int) : RV1 := .agg [.v (.int .i64 p.1), .v (.int .i64 p.2)]
abbrev irLV (p : Int × Int) : LV := .agg [di p.1, di p.2]

theorem hFault_zero {m : HartM} (h : hFault m = 0) : m.regs.length = 16 ∧ m.csr.length = 11 ∧ m.inp.length ≤ 40 ∧ m.out.length ≤ 40 := by
  unfold hFault at h
  cases h1 : (((m.regs.length : Int) != 16) || (((m.csr.length : Int) != 11) || (m.regs.getD 0 0 != 0))) with
  | true => rw [h1] at h; simp at h
  | false =>
    rw [h1, cond_false] at h
    cases h0 : !m.regs.all isW || (!isW m.pc || (!m.csr.all isW || (!m.inp.all isW || !m.out.all isW))) with
    | true => rw [h0] at h; simp at h
    | false =>
    rw [h0, cond_false] at h
    cases h2 : decide ((m.inp.length : Int) > 40) || decide ((m.out.length : Int) > 40) with
    | true => rw [h2] at h; simp at h
    | false =>
      simp at h1 h2
      omega
theorem fault_ne {m : HartM} (h : (hFault m != 0) = false) : hFault m = 0 := by simpa using h

theorem c_laws_eqIntResult (p q : Int × Int) : FnOK Try.prog 57 [irLV p, irLV q] (rb (decide (p = q))) := by
  refine fn_of lv57 Try.func57 rfl rfl (by kernel_rfl) rfl ?_
  repeat' (first | refine bsplit_true ?_ | refine bsplit_false ?_ | refine bsplit_intro (fun h => ?_) (fun h => ?_))
  all_goals refine ⟨⟨congrArg Value.bool ?_, trivial⟩, rfl⟩
  all_goals (obtain ⟨a1, a2⟩ := p; obtain ⟨b1, b2⟩ := q; simp_all)

def pend (m : HartM) : Int := (if m.csr.getD 9 0 ≠ 0 ∧ m.done ≥ m.csr.getD 9 0 then 1 else 0) + (if m.rung = true then 2 else 0) + (if 0 < m.inp.length then 4 else 0)
def pendingOf (m : HartM) : Int × Int := if hFault m = 0 then (0, pend m) else (hFault m, 0)
theorem c_spec_l8Pending (m : HartM) (hc : m.csr.length = 11) : FnOK Try.prog 120 [.dptr (hartD m)] (ri (pend m)) := by
  refine fn_of lv120 Try.func120 rfl rfl (by kernel_rfl) rfl ?_
  refine ask_intro ⟨by omega, by show (9 : Int) < m.csr.length; omega, rfl⟩ ?_
  have fin : ∀ (a b c : Bool), (m.csr.getD 9 0 != 0) = a → (a = true → decide (m.done ≥ m.csr.getD 9 0) = b) → (a = false → b = false) → decide ((m.inp.length : Int) > 0) = c → pend m = (bif b then 1 else 0) + (bif m.rung then 2 else 0) + (bif c then 4 else 0) := by
    intro a b c h1 h2 h3 h4
    subst h1 h4
    unfold pend
    generalize m.csr.getD 9 0 = z at *
    by_cases e : z = 0
    · have := h3 (by simp [e])
      subst this
      cases m.rung <;> simp [e]
    · have := h2 (by simp [e])
      subst this
      by_cases e2 : m.done ≥ z <;> cases m.rung <;> simp [e, e2]
  refine bsplit_intro (fun h1 => ?_) (fun h1 => ?_)
  · repeat' (first | refine bsplit_true ?_ | refine bsplit_false ?_)
    refine ask_intro ⟨by omega, by show (9 : Int) < m.csr.length; omega, rfl⟩ ?_
    repeat' (first | refine bsplit_true ?_ | refine bsplit_false ?_)
    refine chk_intro (by kernel_rfl) ?_
    refine bsplit_intro (fun h2 => ?_) (fun h2 => ?_)
    all_goals
      cases hr : m.rung
      all_goals
        repeat' (first | refine bsplit_true ?_ | refine bsplit_false ?_)
        refine bsplit_intro (fun h4 => ?_) (fun h4 => ?_)
        all_goals
          refine ⟨⟨congrArg (Value.int .i64) ?_, trivial⟩, rfl⟩
          rw [fin _ _ _ h1 (fun _ => h2) (fun h => by simp at h) h4, hr]
          first | rfl | decide
  · repeat' (first | refine bsplit_true ?_ | refine bsplit_false ?_)
    refine chk_intro (by kernel_rfl) ?_
    repeat' (first | refine bsplit_true ?_ | refine bsplit_false ?_)
    cases hr : m.rung
    all_goals
      repeat' (first | refine bsplit_true ?_ | refine bsplit_false ?_)
      refine bsplit_intro (fun h4 => ?_) (fun h4 => ?_)
      all_goals
        refine ⟨⟨congrArg (Value.int .i64) ?_, trivial⟩, rfl⟩
        rw [fin _ false _ h1 (fun h => by simp at h) (fun _ => rfl) h4, hr]
        first | rfl | decide
theorem c_impl_Hart_pending (m : HartM) (hc : m.csr.length = 11) : FnOK Try.prog 92 [.dptr (hartD m)] (ri (pend m)) := by
  refine fn_of lv92 Try.func92 rfl rfl (by kernel_rfl) rfl ?_
  refine ask_intro ⟨by omega, by show (9 : Int) < m.csr.length; omega, rfl⟩ ?_
  have fin : ∀ (a b c : Bool), (m.csr.getD 9 0 != 0) = a → (a = true → decide (m.done ≥ m.csr.getD 9 0) = b) → (a = false → b = false) → decide ((m.inp.length : Int) > 0) = c → pend m = (bif b then 1 else 0) + (bif m.rung then 2 else 0) + (bif c then 4 else 0) := by
    intro a b c h1 h2 h3 h4
    subst h1 h4
    unfold pend
    generalize m.csr.getD 9 0 = z at *
    by_cases e : z = 0
    · have := h3 (by simp [e])
      subst this
      cases m.rung <;> simp [e]
    · have := h2 (by simp [e])
      subst this
      by_cases e2 : m.done ≥ z <;> cases m.rung <;> simp [e, e2]
  refine bsplit_intro (fun h1 => ?_) (fun h1 => ?_)
  · repeat' (first | refine bsplit_true ?_ | refine bsplit_false ?_)
    refine ask_intro ⟨by omega, by show (9 : Int) < m.csr.length; omega, rfl⟩ ?_
    repeat' (first | refine bsplit_true ?_ | refine bsplit_false ?_)
    refine chk_intro (by kernel_rfl) ?_
    refine bsplit_intro (fun h2 => ?_) (fun h2 => ?_)
    all_goals
      cases hr : m.rung
      all_goals
        repeat' (first | refine bsplit_true ?_ | refine bsplit_false ?_)
        refine bsplit_intro (fun h4 => ?_) (fun h4 => ?_)
        all_goals
          refine ⟨⟨congrArg (Value.int .i64) ?_, trivial⟩, rfl⟩
          rw [fin _ _ _ h1 (fun _ => h2) (fun h => by simp at h) h4, hr]
          first | rfl | decide
  · repeat' (first | refine bsplit_true ?_ | refine bsplit_false ?_)
    refine chk_intro (by kernel_rfl) ?_
    repeat' (first | refine bsplit_true ?_ | refine bsplit_false ?_)
    cases hr : m.rung
    all_goals
      repeat' (first | refine bsplit_true ?_ | refine bsplit_false ?_)
      refine bsplit_intro (fun h4 => ?_) (fun h4 => ?_)
      all_goals
        refine ⟨⟨congrArg (Value.int .i64) ?_, trivial⟩, rfl⟩
        rw [fin _ false _ h1 (fun h => by simp at h) (fun _ => rfl) h4, hr]
        first | rfl | decide
theorem c_impl_PendingOf (m : HartM) (hs : m.small) : FnOK Try.prog 36 [hartLV m] (.r (irR (pendingOf m))) := by
  refine fn_of lv36 Try.func36 rfl rfl (by kernel_rfl) rfl ?_
  refine .inl ⟨_, _, rfl, c_impl_HartFault m hs, rfl, ?_⟩
  refine bsplit_intro (fun h => ?_) (fun h => ?_)
  · have h : ¬ hFault m = 0 := by simpa using h
    unfold pendingOf
    rw [if_neg h]
    exact ⟨⟨rfl, rfl, trivial⟩, rfl⟩
  · have h := fault_ne h
    unfold pendingOf
    rw [if_pos h]
    refine .inl ⟨_, _, rfl, c_impl_Hart_pending m (hFault_zero h).2.1, rfl, ?_⟩
    exact ⟨⟨rfl, rfl, trivial⟩, rfl⟩
def csrOf (m : HartM) (k : Int) : Int := if k = 6 then pend m else if k = 8 then m.done else m.csr.getD k.toNat 0
def getCsr (m : HartM) (k : Int) : Int × Int := if hFault m = 0 then (if inR k 0 10 = true then (0, csrOf m k) else (3, 0)) else (hFault m, 0)
theorem inR_iff {n a b : Int} : inR n a b = true ↔ a ≤ n ∧ n ≤ b := by simp [inR]
end Go.Proofs.Ytfcekiehcchebaa.L
