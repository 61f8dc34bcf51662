/- What the functions compute that mark what a result owns, and look whether it is held: contracts. -/
import Derived.Test.YtfcekiehcchebaaCc
set_option linter.unusedVariables false
set_option linter.unusedSimpArgs false
set_option maxRecDepth 100000
namespace Go.Proofs.Ytfcekiehcchebaa.L
open Go.RowKit
/-- the numbers from k on -/
def markL (k : Int) (n : Nat) : List Int := (List.range n).map fun (i : Nat) => k + (i : Int)
theorem markL_len (k : Int) (n : Nat) : (markL k n).length = n := by simp [markL]
theorem markL_get (k : Int) (n i : Nat) (h : i < n) : (markL k n).getD i 0 = k + i := by simp [markL, List.getD, h]
abbrev rowE (l : List Int) : Ent := .row 2 1 l.length (intsF l)

theorem c_laws_markInt64S (l : List Int) (k : Int) (hl : l.length ≤ 1099511627776) (hk : 0 ≤ k) (hk2 : k ≤ 1099511627776) :
    MutOK Try.prog 52 [.row 0, di k] 1 [(0, rowE l)] (di (k + l.length)) 1 [(0, .row 2 1 l.length (intsF (markL k l.length)))] := by
  refine mut_fn_of lv52 Try.func52 rfl rfl (by kernel_rfl) rfl [] ?_
  refine ⟨{ i : Nat // i ≤ l.length }, fun i => ⟨frL [(0, .row 0), (1, di (k + (i.1 : Int))), (5, di i.1)], hpL [(0, .row 2 1 l.length fun j => if j < i.1 then [.v (.int .i64 (k + (j : Int)))] else intsF l j)], 1, 1⟩, fun i => l.length - i.1, ⟨0, by omega⟩,
    le_of [] rfl rfl rfl rfl (tellHp_row rfl rfl rfl (fun i hi => rfl) tellHp_nil) (tellFr_row rfl rfl (tellFr_v rfl (congrArg (Value.int .i64) (?_ : k = k + ((0 : Nat) : Int))) (tellFr_v rfl rfl trivial))), ?_⟩
  · omega
  rintro ⟨i, hi⟩
  refine bsplit_intro (fun h => ?_) (fun h => ?_)
  · have h : i < l.length := by simp at h; exact h
    refine ask_intro ⟨by omega, by simp; omega⟩ ?_
    refine ask_intro (by show i < l.length; exact h) ?_
    refine ⟨⟨i + 1, by omega⟩, le_of [] rfl rfl rfl rfl (tellHp_row rfl rfl rfl (fun j hj => ?_) tellHp_nil) (tellFr_row rfl rfl (tellFr_v rfl (congrArg (Value.int .i64) (?_ : IntKind.i64.wrap (k + (i : Int) + 1) = k + ((i + 1 : Nat) : Int))) (tellFr_v rfl (congrArg (Value.int .i64) (?_ : IntKind.i64.wrap ((i : Int) + 1) = ((i + 1 : Nat) : Int))) trivial))), ?_⟩
    · show (if j = i then splice (if j < i then [.v (.int .i64 (k + (j : Int)))] else intsF l j) 0 [.v (.int .i64 (k + (i : Int)))] else if j < i then [.v (.int .i64 (k + (j : Int)))] else intsF l j) = if j < i + 1 then [.v (.int .i64 (k + (j : Int)))] else intsF l j
      by_cases h1 : j = i
      · subst h1
        rw [if_pos rfl, if_neg (by omega), if_pos (by omega)]
        rfl
      · rw [if_neg h1]
        by_cases h2 : j < i
        · rw [if_pos h2, if_pos (by omega)]
        · rw [if_neg h2, if_neg (by omega)]
    · rw [wrap_i64 _ (by omega) (by omega)]; omega
    · exact wrap_i64 (i + 1) (by omega) (by omega)
    · show l.length - (i + 1) < l.length - i
      omega
  · simp at h
    have e : i = l.length := by omega
    subst e
    refine chk_intro (by kernel_rfl) ⟨tellV_v rfl rfl, tellHp_row rfl rfl rfl (fun j hj => ?_) tellHp_nil⟩
    show (if j < l.length then [.v (.int .i64 (k + (j : Int)))] else intsF l j) = intsF (markL k l.length) j
    rw [if_pos hj]
    show _ = [D.v (.int .i64 ((markL k l.length).getD j 0))]
    rw [markL_get _ _ _ hj]

theorem c_laws_heldInt64S (k : Int) (n : Nat) (hn : n ≤ 1099511627776) (hk : 0 ≤ k) (hk2 : k ≤ 1099511627776) : FnOK Try.prog 95 [.d (.l n (intsF (markL k n))), di k] (ri (k + n)) := by
  refine fn_of lv95 Try.func95 rfl rfl (by kernel_rfl) rfl ?_
  refine ⟨{ i : Nat // i ≤ n }, fun i => ⟨frL [(0, .d (.l n (intsF (markL k n)))), (1, di (k + (i.1 : Int))), (5, di i.1)], hpL [], 0, 0⟩, fun i => n - i.1, ⟨0, by omega⟩,
    le_of [] rfl rfl rfl rfl tellHp_nil (tellFr_d rfl (DLe.refl _) (tellFr_v rfl (congrArg (Value.int .i64) (?_ : k = k + ((0 : Nat) : Int))) (tellFr_v rfl rfl trivial))), ?_⟩
  · omega
  rintro ⟨i, hi⟩
  refine bsplit_intro (fun h => ?_) (fun h => ?_)
  · have h : i < n := by simp at h; exact h
    refine ask_intro ⟨by omega, by simp; omega, rfl⟩ ?_
    refine bsplit_of_false ?_ ?_
    · show ((markL k n).getD i 0 != k + (i : Int)) = false
      rw [markL_get _ _ _ h]; simp
    refine ⟨⟨i + 1, by omega⟩, le_of [] rfl rfl rfl rfl tellHp_nil (tellFr_d rfl (DLe.refl _) (tellFr_v rfl (congrArg (Value.int .i64) (?_ : IntKind.i64.wrap (k + (i : Int) + 1) = k + ((i + 1 : Nat) : Int))) (tellFr_v rfl (congrArg (Value.int .i64) (?_ : IntKind.i64.wrap ((i : Int) + 1) = ((i + 1 : Nat) : Int))) trivial))), ?_⟩
    · rw [wrap_i64 _ (by omega) (by omega)]; omega
    · exact wrap_i64 (i + 1) (by omega) (by omega)
    · show n - (i + 1) < n - i
      omega
  · simp at h
    refine ⟨⟨congrArg (Value.int .i64) (?_ : k + (i : Int) = k + (n : Int)), trivial⟩, rfl⟩
    omega

abbrev hartK (m : HartM) (a b c d : Nat) : List LV := [.row a, di m.pc, .row b, dv (.bool m.halted), dv (.bool m.waiting), dv (.bool m.rung), di m.done, .row c, .row d]
abbrev rowM (l : List Int) (k : Int) : Ent := .row 2 1 l.length (intsF (markL k l.length))
abbrev datM (l : List Int) (k : Int) : LV := .d (.l l.length (intsF (markL k l.length)))
structure HartM.few (m : HartM) : Prop where
  regs : m.regs.length ≤ 1048576
  csr : m.csr.length ≤ 1048576
  inp : m.inp.length ≤ 1048576
  out : m.out.length ≤ 1048576
def hLen (m : HartM) : Int := m.regs.length + m.csr.length + m.inp.length + m.out.length
abbrev hK1 (m : HartM) (k : Int) : Int := k + m.regs.length
abbrev hK2 (m : HartM) (k : Int) : Int := hK1 m k + m.csr.length
abbrev hK3 (m : HartM) (k : Int) : Int := hK2 m k + m.inp.length
abbrev hK4 (m : HartM) (k : Int) : Int := hK3 m k + m.out.length
abbrev hMarks (m : HartM) (k : Int) : List (Nat × Ent) := [(0, rowM m.regs k), (1, rowM m.csr (hK1 m k)), (2, rowM m.inp (hK2 m k)), (3, rowM m.out (hK3 m k))]
abbrev hRows (m : HartM) : List (Nat × Ent) := [(0, rowE m.regs), (1, rowE m.csr), (2, rowE m.inp), (3, rowE m.out)]

theorem hK_le (m : HartM) (k : Int) (hf : m.few) (hk : 0 ≤ k) (hk2 : k ≤ 1048576) : (0 ≤ hK1 m k ∧ hK1 m k ≤ 1099511627776) ∧ (0 ≤ hK2 m k ∧ hK2 m k ≤ 1099511627776) ∧ (0 ≤ hK3 m k ∧ hK3 m k ≤ 1099511627776) ∧ (0 ≤ hK4 m k ∧ hK4 m k ≤ 1099511627776) := by
  obtain ⟨b1, b2, b3, b4⟩ := hf
  unfold hK4 hK3 hK2 hK1
  omega
theorem c_laws_markHart (m : HartM) (k : Int) (hf : m.few) (hk : 0 ≤ k) (hk2 : k ≤ 1048576) : MutOK Try.prog 24 [.agg (hartK m 0 1 2 3), di k] 4 (hRows m) (di (hK4 m k)) 4 (hMarks m k) := by
  obtain ⟨⟨e1, e1'⟩, ⟨e2, e2'⟩, ⟨e3, e3'⟩, ⟨e4, e4'⟩⟩ := hK_le m k hf hk hk2
  obtain ⟨b1, b2, b3, b4⟩ := hf
  refine mut_fn_of lv24 Try.func24 rfl rfl (by kernel_rfl) rfl [] ?_
  refine .inr ⟨rfl, use_mut ⟨_, _, _, _, _, _, rfl, rfl, c_laws_markInt64S m.regs k (by omega) (by omega) (by omega), rfl, ?_⟩⟩
  refine .inr ⟨rfl, use_mut ⟨_, _, _, _, _, _, rfl, rfl, c_laws_markInt64S m.csr (hK1 m k) (by omega) e1 e1', rfl, ?_⟩⟩
  refine .inr ⟨rfl, use_mut ⟨_, _, _, _, _, _, rfl, rfl, c_laws_markInt64S m.inp (hK2 m k) (by omega) e2 e2', rfl, ?_⟩⟩
  refine .inr ⟨rfl, use_mut ⟨_, _, _, _, _, _, rfl, rfl, c_laws_markInt64S m.out (hK3 m k) (by omega) e3 e3', rfl, ?_⟩⟩
  exact chk_intro (by kernel_rfl) ⟨tellV_v rfl rfl, tellHp_row rfl rfl rfl (fun j hj => rfl) (tellHp_row rfl rfl rfl (fun j hj => rfl) (tellHp_row rfl rfl rfl (fun j hj => rfl) (tellHp_row rfl rfl rfl (fun j hj => rfl) tellHp_nil)))⟩
theorem c_laws_heldHart (m : HartM) (k : Int) (hf : m.few) (hk : 0 ≤ k) (hk2 : k ≤ 1048576) : FnOK Try.prog 83 [.agg [datM m.regs k, di m.pc, datM m.csr (hK1 m k), dv (.bool m.halted), dv (.bool m.waiting), dv (.bool m.rung), di m.done, datM m.inp (hK2 m k), datM m.out (hK3 m k)], di k] (ri (hK4 m k)) := by
  obtain ⟨⟨e1, e1'⟩, ⟨e2, e2'⟩, ⟨e3, e3'⟩, ⟨e4, e4'⟩⟩ := hK_le m k hf hk hk2
  obtain ⟨b1, b2, b3, b4⟩ := hf
  refine fn_of lv83 Try.func83 rfl rfl (by kernel_rfl) rfl ?_
  refine .inl ⟨_, _, rfl, c_laws_heldInt64S k m.regs.length (by omega) (by omega) (by omega), rfl, ?_⟩
  refine bsplit_of_false (decide_eq_false (show ¬ hK1 m k < 0 by omega)) ?_
  refine .inl ⟨_, _, rfl, c_laws_heldInt64S (hK1 m k) m.csr.length (by omega) e1 e1', rfl, ?_⟩
  refine bsplit_of_false (decide_eq_false (show ¬ hK2 m k < 0 by omega)) ?_
  refine .inl ⟨_, _, rfl, c_laws_heldInt64S (hK2 m k) m.inp.length (by omega) e2 e2', rfl, ?_⟩
  refine bsplit_of_false (decide_eq_false (show ¬ hK3 m k < 0 by omega)) ?_
  refine .inl ⟨_, _, rfl, c_laws_heldInt64S (hK3 m k) m.out.length (by omega) e3 e3', rfl, ?_⟩
  refine bsplit_of_false (decide_eq_false (show ¬ hK4 m k < 0 by omega)) ?_
  exact ⟨⟨rfl, trivial⟩, rfl⟩

abbrev hrLV (p : Int × HartM) : LV := .agg [di p.1, .d (ints p.2.regs), di p.2.pc, .d (ints p.2.csr), dv (.bool p.2.halted), dv (.bool p.2.waiting), dv (.bool p.2.rung), di p.2.done, .d (ints p.2.inp), .d (ints p.2.out)]
abbrev hrR (p : Int × HartM) : RV1 := .agg [.v (.int .i64 p.1), oInts p.2.regs, .v (.int .i64 p.2.pc), oInts p.2.csr, .v (.bool p.2.halted), .v (.bool p.2.waiting), .v (.bool p.2.rung), .v (.int .i64 p.2.done), oInts p.2.inp, oInts p.2.out]

end Go.Proofs.Ytfcekiehcchebaa.L
