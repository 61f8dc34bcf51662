/- What the functions compute that read and write a machine's device page: contracts. -/
import Derived.Test.YtfcekiehcchebaaCj
set_option linter.unusedVariables false
set_option linter.unusedSimpArgs false
set_option maxRecDepth 100000
namespace Go.Proofs.Ytfcekiehcchebaa.L
open Go.RowKit
theorem drop_ints (l : List Int) (k i : Nat) : intsF l (k + i) = intsF (l.drop k) i := by
  show [D.v (.int .i64 (l.getD (k + i) 0))] = [D.v (.int .i64 ((l.drop k).getD i 0))]
  simp [List.getD, List.getElem?_drop]
def readV (m : HartM) (k : Int) : Int := if k = 1 then m.inp.getD 0 0 else if k = 2 then m.done else if k = 3 then m.csr.getD 9 0 else if k = 4 then pend m else if k = 6 then m.inp.length else 0
def readM (m : HartM) (k : Int) : HartM := if k = 1 then { m with inp := m.inp.drop 1 } else m
abbrev hMemI (m : HartM) : List (Nat × Ent) := [(0, .box 30 (hartK m 1 2 5 4)), (1, rowE m.regs), (2, rowE m.csr), (5, rowE m.inp), (4, rowE m.out)]
abbrev hMemD (m : HartM) : List (Nat × Ent) := [(0, .box 30 [.row 1, di m.pc, .row 2, dv (.bool m.halted), dv (.bool m.waiting), dv (.bool m.rung), di m.done, .d (ints m.inp), .row 4]), (1, rowE m.regs), (2, rowE m.csr), (4, rowE m.out)]
theorem readM_ne {m : HartM} {k : Int} (h : k ≠ 1) : readM m k = m := if_neg h
theorem c_impl_Hart_readDevice (m : HartM) (k : Int) (hc : m.csr.length = 11) (hi : m.inp.length ≤ 40) : MutOK Try.prog 82 [.ptr 0 0, di k] 5 (hMem m) (di (readV m k)) 6 (hMemI (readM m k)) := by
  by_cases hA : k = 1 ∧ 0 < m.inp.length
  · obtain ⟨rfl, h2⟩ := hA
    refine mut_fn_of lv82 Try.func82 rfl rfl (by kernel_rfl) rfl [(5, 20677)] ?_
    repeat' (first | refine bsplit_true ?_ | refine bsplit_false ?_)
    refine bsplit_of_true (by simp; omega) ?_
    refine ask_intro ⟨by omega, by show (0 : Int) < m.inp.length; omega⟩ ?_
    refine ask_intro (show 0 < m.inp.length by omega) ?_
    refine ask_intro ⟨by omega, by show (1 : Int) ≤ m.inp.length; omega, by show (m.inp.length : Int) ≤ m.inp.length; omega, .inr (fun i hi => rfl)⟩ ?_
    refine .inl ⟨_, _, rfl, (c_slices_Clone (m.inp.drop 1) (by simp; omega)).weak ⟨LVLe.d (DLe.l (show ((m.inp.length : Int) - 1).toNat = (m.inp.drop 1).length by simp) (fun i hi => drop_ints m.inp 1 i)), trivial⟩, rfl, ?_⟩
    exact chk_intro (by kernel_rfl) ⟨tellV_v rfl rfl, tellHp_box rfl rfl ⟨rfl, rfl, rfl, rfl, rfl, rfl, rfl, rfl, rfl, trivial⟩ (tellHp_row rfl rfl rfl (fun j hj => rfl) (tellHp_row rfl rfl rfl (fun j hj => rfl) (tellHp_row rfl rfl rfl (fun j hj => rfl) (tellHp_row rfl rfl rfl (fun j hj => rfl) tellHp_nil))))⟩
  have e : readM m k = m := by
    unfold readM
    split
    · rename_i h
      have : m.inp = [] := by
        cases hm : m.inp with
        | nil => rfl
        | cons a l => exact absurd ⟨h, by rw [hm]; simp⟩ hA
      obtain ⟨a, b, c, d, e, f, g, inp, o⟩ := m
      simp only at this
      subst this
      rfl
    · rfl
  rw [e]
  generalize hv : readV m k = v
  unfold readV at hv
  refine mut_fn_of lv82 Try.func82 rfl rfl (by kernel_rfl) rfl [(5, 3)] ?_
  refine bsplit_intro (fun h => ?_) (fun h => ?_)
  · have h : k = 1 := by simpa using h
    have h2 : m.inp = [] := by
      cases hm : m.inp with
      | nil => rfl
      | cons a l => exact absurd ⟨h, by rw [hm]; simp⟩ hA
    refine bsplit_of_false (by simp [h2]) ?_
    rw [if_pos h, h2] at hv
    exact chk_intro (by kernel_rfl) ⟨tellV_v rfl (congrArg (Value.int .i64) hv), tellHp_box rfl rfl ⟨rfl, rfl, rfl, rfl, rfl, rfl, rfl, rfl, rfl, trivial⟩ (tellHp_row rfl rfl rfl (fun j hj => rfl) (tellHp_row rfl rfl rfl (fun j hj => rfl) (tellHp_row rfl rfl rfl (fun j hj => rfl) (tellHp_row rfl rfl rfl (fun j hj => rfl) tellHp_nil))))⟩
  rw [if_neg (by simpa using h)] at hv
  refine bsplit_intro (fun h => ?_) (fun h => ?_)
  · rw [if_pos (by simpa using h)] at hv
    exact chk_intro (by kernel_rfl) ⟨tellV_v rfl (congrArg (Value.int .i64) hv), tellHp_box rfl rfl ⟨rfl, rfl, rfl, rfl, rfl, rfl, rfl, rfl, rfl, trivial⟩ (tellHp_row rfl rfl rfl (fun j hj => rfl) (tellHp_row rfl rfl rfl (fun j hj => rfl) (tellHp_row rfl rfl rfl (fun j hj => rfl) (tellHp_row rfl rfl rfl (fun j hj => rfl) tellHp_nil))))⟩
  rw [if_neg (by simpa using h)] at hv
  refine bsplit_intro (fun h => ?_) (fun h => ?_)
  · rw [if_pos (by simpa using h)] at hv
    refine ask_intro ⟨by omega, by show (9 : Int) < m.csr.length; omega⟩ ?_
    refine ask_intro (show 9 < m.csr.length by omega) ?_
    exact chk_intro (by kernel_rfl) ⟨tellV_v rfl (congrArg (Value.int .i64) hv), tellHp_box rfl rfl ⟨rfl, rfl, rfl, rfl, rfl, rfl, rfl, rfl, rfl, trivial⟩ (tellHp_row rfl rfl rfl (fun j hj => rfl) (tellHp_row rfl rfl rfl (fun j hj => rfl) (tellHp_row rfl rfl rfl (fun j hj => rfl) (tellHp_row rfl rfl rfl (fun j hj => rfl) tellHp_nil))))⟩
  rw [if_neg (by simpa using h)] at hv
  refine bsplit_intro (fun h => ?_) (fun h => ?_)
  · rw [if_pos (by simpa using h)] at hv
    refine .inl ⟨_, _, rfl, c_impl_Hart_pending m hc, rfl, ?_⟩
    exact chk_intro (by kernel_rfl) ⟨tellV_v rfl (congrArg (Value.int .i64) hv), tellHp_box rfl rfl ⟨rfl, rfl, rfl, rfl, rfl, rfl, rfl, rfl, rfl, trivial⟩ (tellHp_row rfl rfl rfl (fun j hj => rfl) (tellHp_row rfl rfl rfl (fun j hj => rfl) (tellHp_row rfl rfl rfl (fun j hj => rfl) (tellHp_row rfl rfl rfl (fun j hj => rfl) tellHp_nil))))⟩
  rw [if_neg (by simpa using h)] at hv
  refine bsplit_intro (fun h => ?_) (fun h => ?_)
  · rw [if_pos (by simpa using h)] at hv
    exact chk_intro (by kernel_rfl) ⟨tellV_v rfl (congrArg (Value.int .i64) hv), tellHp_box rfl rfl ⟨rfl, rfl, rfl, rfl, rfl, rfl, rfl, rfl, rfl, trivial⟩ (tellHp_row rfl rfl rfl (fun j hj => rfl) (tellHp_row rfl rfl rfl (fun j hj => rfl) (tellHp_row rfl rfl rfl (fun j hj => rfl) (tellHp_row rfl rfl rfl (fun j hj => rfl) tellHp_nil))))⟩
  rw [if_neg (by simpa using h)] at hv
  exact chk_intro (by kernel_rfl) ⟨tellV_v rfl (congrArg (Value.int .i64) hv), tellHp_box rfl rfl ⟨rfl, rfl, rfl, rfl, rfl, rfl, rfl, rfl, rfl, trivial⟩ (tellHp_row rfl rfl rfl (fun j hj => rfl) (tellHp_row rfl rfl rfl (fun j hj => rfl) (tellHp_row rfl rfl rfl (fun j hj => rfl) (tellHp_row rfl rfl rfl (fun j hj => rfl) tellHp_nil))))⟩
theorem c_spec_l9Read (m : HartM) (k : Int) (hc : m.csr.length = 11) (hi : m.inp.length ≤ 40) : MutOK Try.prog 79 [.ptr 0 0, di k] 5 (hMem m) (di (readV m k)) 5 (hMemD (readM m k)) := by
  generalize hv : readV m k = v
  unfold readV at hv
  by_cases hk1 : k = 1
  · rw [if_pos hk1] at hv
    have e : readM m k = { m with inp := m.inp.drop 1 } := if_pos hk1
    rw [e]
    refine mut_fn_of lv79 Try.func79 rfl rfl (by kernel_rfl) rfl [] ?_
    refine bsplit_of_true (by simpa using hk1) ?_
    by_cases h2 : m.inp.length = 0
    · have h3 : m.inp = [] := List.length_eq_zero_iff.1 h2
      rw [h3] at hv
      refine bsplit_of_true (by simp; exact h3) ?_
      exact chk_intro (by kernel_rfl) ⟨tellV_v rfl (congrArg (Value.int .i64) hv), tellHp_box rfl rfl ⟨rfl, rfl, rfl, rfl, rfl, rfl, rfl, ⟨rfl, DLe.l (show m.inp.length = (m.inp.drop 1).length by simp [h3]) (fun i hi => absurd hi (by omega))⟩, rfl, trivial⟩ (tellHp_row rfl rfl rfl (fun j hj => rfl) (tellHp_row rfl rfl rfl (fun j hj => rfl) (tellHp_row rfl rfl rfl (fun j hj => rfl) tellHp_nil)))⟩
    · refine bsplit_of_false (by simp; intro h3; simp [h3] at h2) ?_
      refine ask_intro ⟨by omega, by show (0 : Int) < m.inp.length; omega⟩ ?_
      refine ask_intro (show 0 < m.inp.length by omega) ?_
      refine ask_intro ⟨by omega, by show (1 : Int) ≤ m.inp.length; omega, by show (m.inp.length : Int) ≤ m.inp.length; omega, .inr (fun i hi => rfl)⟩ ?_
      exact chk_intro (by kernel_rfl) ⟨tellV_v rfl (congrArg (Value.int .i64) hv), tellHp_box rfl rfl ⟨rfl, rfl, rfl, rfl, rfl, rfl, rfl, DLe.l (show ((m.inp.length : Int) - 1).toNat = (m.inp.drop 1).length by simp) (fun i hi => drop_ints m.inp 1 i), rfl, trivial⟩ (tellHp_row rfl rfl rfl (fun j hj => rfl) (tellHp_row rfl rfl rfl (fun j hj => rfl) (tellHp_row rfl rfl rfl (fun j hj => rfl) tellHp_nil)))⟩
  rw [if_neg hk1] at hv
  rw [readM_ne hk1]
  refine mut_fn_of lv79 Try.func79 rfl rfl (by kernel_rfl) rfl [] ?_
  refine bsplit_of_false (by simpa using hk1) ?_
  refine bsplit_intro (fun h => ?_) (fun h => ?_)
  · rw [if_pos (by simpa using h)] at hv
    exact chk_intro (by kernel_rfl) ⟨tellV_v rfl (congrArg (Value.int .i64) hv), tellHp_box rfl rfl ⟨rfl, rfl, rfl, rfl, rfl, rfl, rfl, ⟨rfl, DLe.refl _⟩, rfl, trivial⟩ (tellHp_row rfl rfl rfl (fun j hj => rfl) (tellHp_row rfl rfl rfl (fun j hj => rfl) (tellHp_row rfl rfl rfl (fun j hj => rfl) tellHp_nil)))⟩
  rw [if_neg (by simpa using h)] at hv
  refine bsplit_intro (fun h => ?_) (fun h => ?_)
  · rw [if_pos (by simpa using h)] at hv
    refine ask_intro ⟨by omega, by show (9 : Int) < m.csr.length; omega⟩ ?_
    refine ask_intro (show 9 < m.csr.length by omega) ?_
    exact chk_intro (by kernel_rfl) ⟨tellV_v rfl (congrArg (Value.int .i64) hv), tellHp_box rfl rfl ⟨rfl, rfl, rfl, rfl, rfl, rfl, rfl, ⟨rfl, DLe.refl _⟩, rfl, trivial⟩ (tellHp_row rfl rfl rfl (fun j hj => rfl) (tellHp_row rfl rfl rfl (fun j hj => rfl) (tellHp_row rfl rfl rfl (fun j hj => rfl) tellHp_nil)))⟩
  rw [if_neg (by simpa using h)] at hv
  refine bsplit_intro (fun h => ?_) (fun h => ?_)
  · rw [if_pos (by simpa using h)] at hv
    refine .inl ⟨_, _, rfl, c_spec_l8Pending m hc, rfl, ?_⟩
    exact chk_intro (by kernel_rfl) ⟨tellV_v rfl (congrArg (Value.int .i64) hv), tellHp_box rfl rfl ⟨rfl, rfl, rfl, rfl, rfl, rfl, rfl, ⟨rfl, DLe.refl _⟩, rfl, trivial⟩ (tellHp_row rfl rfl rfl (fun j hj => rfl) (tellHp_row rfl rfl rfl (fun j hj => rfl) (tellHp_row rfl rfl rfl (fun j hj => rfl) tellHp_nil)))⟩
  rw [if_neg (by simpa using h)] at hv
  refine bsplit_intro (fun h => ?_) (fun h => ?_)
  · rw [if_pos (by simpa using h)] at hv
    exact chk_intro (by kernel_rfl) ⟨tellV_v rfl (congrArg (Value.int .i64) hv), tellHp_box rfl rfl ⟨rfl, rfl, rfl, rfl, rfl, rfl, rfl, ⟨rfl, DLe.refl _⟩, rfl, trivial⟩ (tellHp_row rfl rfl rfl (fun j hj => rfl) (tellHp_row rfl rfl rfl (fun j hj => rfl) (tellHp_row rfl rfl rfl (fun j hj => rfl) tellHp_nil)))⟩
  rw [if_neg (by simpa using h)] at hv
  exact chk_intro (by kernel_rfl) ⟨tellV_v rfl (congrArg (Value.int .i64) hv), tellHp_box rfl rfl ⟨rfl, rfl, rfl, rfl, rfl, rfl, rfl, ⟨rfl, DLe.refl _⟩, rfl, trivial⟩ (tellHp_row rfl rfl rfl (fun j hj => rfl) (tellHp_row rfl rfl rfl (fun j hj => rfl) (tellHp_row rfl rfl rfl (fun j hj => rfl) tellHp_nil)))⟩
def writeV (k w : Int) : Int := if k = 5 then wrapW w else -1
def writeM (m : HartM) (k w : Int) : HartM := if k = 0 then (if m.out.length < 40 then { m with out := m.out ++ [wrapW w] } else m) else if k = 3 then setM m 9 w else if k = 4 then setM m 6 w else m
theorem wrapW_wrapW (w : Int) : wrapW (wrapW w) = wrapW w := by unfold wrapW; omega
theorem setM_wrapW (m : HartM) (k w : Int) : setM m k (wrapW w) = setM m k w := by unfold setM; rw [wrapW_wrapW]
abbrev hMemO (m : HartM) : List (Nat × Ent) := [(0, .box 30 (hartK m 1 2 3 5)), (1, rowE m.regs), (2, rowE m.csr), (3, rowE m.inp), (5, rowE m.out)]
theorem app_ints (l : List Int) (w : Int) (i : Nat) : upto l.length (intsF l) (fun i => ([[D.v (.int .i64 w)]] : List (List D)).getD i []) i = intsF (l ++ [w]) i ∨ l.length + 1 ≤ i := by
  rcases Nat.lt_or_ge i (l.length + 1) with h | h
  · refine .inl ?_
    unfold upto
    show _ = [D.v (.int .i64 ((l ++ [w]).getD i 0))]
    split
    · rename_i h; show [D.v (.int .i64 (l.getD i 0))] = _; simp [List.getD, List.getElem?_append, h]
    · have : i = l.length := by omega
      subst this
      simp [List.getD]
  · exact .inr h
theorem app_ints' (l : List Int) (w : Int) (i : Nat) (h : i < l.length + 1) : upto l.length (intsF l) (fun i => ([[D.v (.int .i64 w)]] : List (List D)).getD i []) i = intsF (l ++ [w]) i := (app_ints l w i).resolve_right (by omega)
theorem one_len (v : Int) (i : Nat) (hi : i < 1) : (([[D.v (.int .i64 v)]] : List (List D)).getD i []).length = 1 := by
  obtain rfl : i = 0 := by omega
  rfl
theorem c_spec_l9Write (m : HartM) (k w : Int) (hc : m.csr.length = 11) (ho : m.out.length ≤ 40) : MutOK Try.prog 84 [.ptr 0 0, di k, di w] 5 (hMem m) (di (writeV k w)) 6 (hMemO (writeM m k w)) := by
  generalize hv : writeV k w = v
  unfold writeV at hv
  by_cases hA : k = 0 ∧ m.out.length < 40
  · obtain ⟨rfl, h2⟩ := hA
    have e : writeM m 0 w = { m with out := m.out ++ [wrapW w] } := by unfold writeM; rw [if_pos rfl, if_pos h2]
    rw [e]
    rw [if_neg (by decide)] at hv
    refine mut_fn_of lv84 Try.func84 rfl rfl (by kernel_rfl) rfl [(5, 20709)] ?_
    refine .inl ⟨_, _, rfl, c_spec_WrapWord w, rfl, ?_⟩
    repeat' (first | refine bsplit_true ?_ | refine bsplit_false ?_)
    refine bsplit_of_true (by simp; omega) ?_
    first
      | refine .inl ⟨_, _, rfl, c_slices_Clone m.out (by omega), rfl, ?_⟩
      | skip
    refine ask_intro ⟨by show (m.out.length + 1) * 8 ≤ 140737488355328; omega, by show m.out.length + 1 ≤ 9223372036854775807; omega, one_len _⟩ ?_
    exact chk_intro (by kernel_rfl) ⟨tellV_v rfl (congrArg (Value.int .i64) hv), tellHp_box rfl rfl ⟨rfl, rfl, rfl, rfl, rfl, rfl, rfl, rfl, rfl, trivial⟩ (tellHp_row rfl rfl rfl (fun j hj => rfl) (tellHp_row rfl rfl rfl (fun j hj => rfl) (tellHp_row rfl rfl rfl (fun j hj => rfl) (tellHp_row rfl rfl (show m.out.length + 1 = (m.out ++ [wrapW w]).length by simp) (fun j hj => app_ints' m.out (wrapW w) j hj) tellHp_nil))))⟩
  by_cases h0 : k = 0
  · have h2 : ¬ m.out.length < 40 := fun h => hA ⟨h0, h⟩
    have e : writeM m k w = m := by unfold writeM; rw [if_pos h0, if_neg h2]
    rw [e]
    rw [if_neg (by omega)] at hv
    refine mut_fn_of lv84 Try.func84 rfl rfl (by kernel_rfl) rfl [(5, 4)] ?_
    refine .inl ⟨_, _, rfl, c_spec_WrapWord w, rfl, ?_⟩
    refine bsplit_of_true (by simpa using h0) ?_
    refine bsplit_of_false (by simp; omega) ?_
    exact chk_intro (by kernel_rfl) ⟨tellV_v rfl (congrArg (Value.int .i64) hv), tellHp_box rfl rfl ⟨rfl, rfl, rfl, rfl, rfl, rfl, rfl, rfl, rfl, trivial⟩ (tellHp_row rfl rfl rfl (fun j hj => rfl) (tellHp_row rfl rfl rfl (fun j hj => rfl) (tellHp_row rfl rfl rfl (fun j hj => rfl) (tellHp_row rfl rfl rfl (fun j hj => rfl) tellHp_nil))))⟩
  have e9 : setM m 9 w = setCsrL m 9 (wrapW w) := by simp [setM]
  have c9 := c_spec_l8Set m 9 (wrapW w) hc (inR_iff.2 ⟨by omega, by omega⟩)
  have c6 := c_spec_l8Set m 6 (wrapW w) hc (inR_iff.2 ⟨by omega, by omega⟩)
  rw [setM_wrapW] at c9 c6
  generalize hm : writeM m k w = m2
  unfold writeM at hm
  rw [if_neg h0] at hm
  refine mut_fn_of lv84 Try.func84 rfl rfl (by kernel_rfl) rfl [(5, 4)] ?_
  refine .inl ⟨_, _, rfl, c_spec_WrapWord w, rfl, ?_⟩
  refine bsplit_of_false (by simpa using h0) ?_
  refine bsplit_intro (fun h => ?_) (fun h => ?_)
  · rw [if_pos (by simpa using h)] at hm
    rw [if_neg (by simp at h; omega)] at hv
    first
      | (subst hm
         refine .inr ⟨rfl, use_mut ⟨_, _, _, _, _, _, rfl, rfl, c9, rfl, ?_⟩⟩
         exact chk_intro (by kernel_rfl) ⟨tellV_v rfl (congrArg (Value.int .i64) hv), tellHp_box rfl rfl ⟨rfl, rfl, rfl, rfl, rfl, rfl, rfl, rfl, rfl, trivial⟩ (tellHp_row rfl rfl rfl (fun j hj => rfl) (tellHp_row rfl rfl rfl (fun j hj => rfl) (tellHp_row rfl rfl rfl (fun j hj => rfl) (tellHp_row rfl rfl rfl (fun j hj => rfl) tellHp_nil))))⟩)
      | (rw [e9] at hm
         subst hm
         refine ask_intro ⟨by omega, by show (9 : Int) < m.csr.length; omega⟩ ?_
         refine ask_intro (show 9 < m.csr.length by omega) ?_
         exact chk_intro (by kernel_rfl) ⟨tellV_v rfl (congrArg (Value.int .i64) hv), tellHp_box rfl rfl ⟨rfl, rfl, rfl, rfl, rfl, rfl, rfl, rfl, rfl, trivial⟩ (tellHp_row rfl rfl rfl (fun j hj => rfl) (tellHp_row rfl rfl (show m.csr.length = (m.csr.set 9 (wrapW w)).length by simp) (fun j hj => set_at (l := m.csr) (i := 9) rfl (by omega)) (tellHp_row rfl rfl rfl (fun j hj => rfl) (tellHp_row rfl rfl rfl (fun j hj => rfl) tellHp_nil))))⟩)
  rw [if_neg (by simpa using h)] at hm
  refine bsplit_intro (fun h => ?_) (fun h => ?_)
  · rw [if_pos (by simpa using h)] at hm
    rw [if_neg (by simp at h; omega)] at hv
    subst hm
    refine .inr ⟨rfl, use_mut ⟨_, _, _, _, _, _, rfl, rfl, c6, rfl, ?_⟩⟩
    exact chk_intro (by kernel_rfl) ⟨tellV_v rfl (congrArg (Value.int .i64) hv), tellHp_box rfl rfl ⟨rfl, rfl, rfl, rfl, rfl, rfl, rfl, rfl, rfl, trivial⟩ (tellHp_row rfl rfl rfl (fun j hj => rfl) (tellHp_row rfl rfl rfl (fun j hj => rfl) (tellHp_row rfl rfl rfl (fun j hj => rfl) (tellHp_row rfl rfl rfl (fun j hj => rfl) tellHp_nil))))⟩
  rw [if_neg (by simpa using h)] at hm
  subst hm
  refine bsplit_intro (fun h => ?_) (fun h => ?_)
  · rw [if_pos (by simpa using h)] at hv
    exact chk_intro (by kernel_rfl) ⟨tellV_v rfl (congrArg (Value.int .i64) hv), tellHp_box rfl rfl ⟨rfl, rfl, rfl, rfl, rfl, rfl, rfl, rfl, rfl, trivial⟩ (tellHp_row rfl rfl rfl (fun j hj => rfl) (tellHp_row rfl rfl rfl (fun j hj => rfl) (tellHp_row rfl rfl rfl (fun j hj => rfl) (tellHp_row rfl rfl rfl (fun j hj => rfl) tellHp_nil))))⟩
  rw [if_neg (by simpa using h)] at hv
  exact chk_intro (by kernel_rfl) ⟨tellV_v rfl (congrArg (Value.int .i64) hv), tellHp_box rfl rfl ⟨rfl, rfl, rfl, rfl, rfl, rfl, rfl, rfl, rfl, trivial⟩ (tellHp_row rfl rfl rfl (fun j hj => rfl) (tellHp_row rfl rfl rfl (fun j hj => rfl) (tellHp_row rfl rfl rfl (fun j hj => rfl) (tellHp_row rfl rfl rfl (fun j hj => rfl) tellHp_nil))))⟩
theorem c_impl_Hart_writeDevice (m : HartM) (k w : Int) (hc : m.csr.length = 11) (ho : m.out.length ≤ 40) : MutOK Try.prog 85 [.ptr 0 0, di k, di w] 5 (hMem m) (di (writeV k w)) 6 (hMemO (writeM m k w)) := by
  generalize hv : writeV k w = v
  unfold writeV at hv
  by_cases hA : k = 0 ∧ m.out.length < 40
  · obtain ⟨rfl, h2⟩ := hA
    have e : writeM m 0 w = { m with out := m.out ++ [wrapW w] } := by unfold writeM; rw [if_pos rfl, if_pos h2]
    rw [e]
    rw [if_neg (by decide)] at hv
    refine mut_fn_of lv85 Try.func85 rfl rfl (by kernel_rfl) rfl [(5, 20741)] ?_
    refine .inl ⟨_, _, rfl, c_impl_WrapWord w, rfl, ?_⟩
    repeat' (first | refine bsplit_true ?_ | refine bsplit_false ?_)
    refine bsplit_of_true (by simp; omega) ?_
    first
      | refine .inl ⟨_, _, rfl, c_slices_Clone m.out (by omega), rfl, ?_⟩
      | skip
    refine ask_intro ⟨by show (m.out.length + 1) * 8 ≤ 140737488355328; omega, by show m.out.length + 1 ≤ 9223372036854775807; omega, one_len _⟩ ?_
    exact chk_intro (by kernel_rfl) ⟨tellV_v rfl (congrArg (Value.int .i64) hv), tellHp_box rfl rfl ⟨rfl, rfl, rfl, rfl, rfl, rfl, rfl, rfl, rfl, trivial⟩ (tellHp_row rfl rfl rfl (fun j hj => rfl) (tellHp_row rfl rfl rfl (fun j hj => rfl) (tellHp_row rfl rfl rfl (fun j hj => rfl) (tellHp_row rfl rfl (show m.out.length + 1 = (m.out ++ [wrapW w]).length by simp) (fun j hj => app_ints' m.out (wrapW w) j hj) tellHp_nil))))⟩
  by_cases h0 : k = 0
  · have h2 : ¬ m.out.length < 40 := fun h => hA ⟨h0, h⟩
    have e : writeM m k w = m := by unfold writeM; rw [if_pos h0, if_neg h2]
    rw [e]
    rw [if_neg (by omega)] at hv
    refine mut_fn_of lv85 Try.func85 rfl rfl (by kernel_rfl) rfl [(5, 4)] ?_
    refine .inl ⟨_, _, rfl, c_impl_WrapWord w, rfl, ?_⟩
    refine bsplit_of_true (by simpa using h0) ?_
    refine bsplit_of_false (by simp; omega) ?_
    exact chk_intro (by kernel_rfl) ⟨tellV_v rfl (congrArg (Value.int .i64) hv), tellHp_box rfl rfl ⟨rfl, rfl, rfl, rfl, rfl, rfl, rfl, rfl, rfl, trivial⟩ (tellHp_row rfl rfl rfl (fun j hj => rfl) (tellHp_row rfl rfl rfl (fun j hj => rfl) (tellHp_row rfl rfl rfl (fun j hj => rfl) (tellHp_row rfl rfl rfl (fun j hj => rfl) tellHp_nil))))⟩
  have e9 : setM m 9 w = setCsrL m 9 (wrapW w) := by simp [setM]
  have c9 := c_impl_Hart_set m 9 (wrapW w) hc (inR_iff.2 ⟨by omega, by omega⟩)
  have c6 := c_impl_Hart_set m 6 (wrapW w) hc (inR_iff.2 ⟨by omega, by omega⟩)
  rw [setM_wrapW] at c9 c6
  generalize hm : writeM m k w = m2
  unfold writeM at hm
  rw [if_neg h0] at hm
  refine mut_fn_of lv85 Try.func85 rfl rfl (by kernel_rfl) rfl [(5, 4)] ?_
  refine .inl ⟨_, _, rfl, c_impl_WrapWord w, rfl, ?_⟩
  refine bsplit_of_false (by simpa using h0) ?_
  refine bsplit_intro (fun h => ?_) (fun h => ?_)
  · rw [if_pos (by simpa using h)] at hm
    rw [if_neg (by simp at h; omega)] at hv
    first
      | (subst hm
         refine .inr ⟨rfl, use_mut ⟨_, _, _, _, _, _, rfl, rfl, c9, rfl, ?_⟩⟩
         exact chk_intro (by kernel_rfl) ⟨tellV_v rfl (congrArg (Value.int .i64) hv), tellHp_box rfl rfl ⟨rfl, rfl, rfl, rfl, rfl, rfl, rfl, rfl, rfl, trivial⟩ (tellHp_row rfl rfl rfl (fun j hj => rfl) (tellHp_row rfl rfl rfl (fun j hj => rfl) (tellHp_row rfl rfl rfl (fun j hj => rfl) (tellHp_row rfl rfl rfl (fun j hj => rfl) tellHp_nil))))⟩)
      | (rw [e9] at hm
         subst hm
         refine ask_intro ⟨by omega, by show (9 : Int) < m.csr.length; omega⟩ ?_
         refine ask_intro (show 9 < m.csr.length by omega) ?_
         exact chk_intro (by kernel_rfl) ⟨tellV_v rfl (congrArg (Value.int .i64) hv), tellHp_box rfl rfl ⟨rfl, rfl, rfl, rfl, rfl, rfl, rfl, rfl, rfl, trivial⟩ (tellHp_row rfl rfl rfl (fun j hj => rfl) (tellHp_row rfl rfl (show m.csr.length = (m.csr.set 9 (wrapW w)).length by simp) (fun j hj => set_at (l := m.csr) (i := 9) rfl (by omega)) (tellHp_row rfl rfl rfl (fun j hj => rfl) (tellHp_row rfl rfl rfl (fun j hj => rfl) tellHp_nil))))⟩)
  rw [if_neg (by simpa using h)] at hm
  refine bsplit_intro (fun h => ?_) (fun h => ?_)
  · rw [if_pos (by simpa using h)] at hm
    rw [if_neg (by simp at h; omega)] at hv
    subst hm
    refine .inr ⟨rfl, use_mut ⟨_, _, _, _, _, _, rfl, rfl, c6, rfl, ?_⟩⟩
    exact chk_intro (by kernel_rfl) ⟨tellV_v rfl (congrArg (Value.int .i64) hv), tellHp_box rfl rfl ⟨rfl, rfl, rfl, rfl, rfl, rfl, rfl, rfl, rfl, trivial⟩ (tellHp_row rfl rfl rfl (fun j hj => rfl) (tellHp_row rfl rfl rfl (fun j hj => rfl) (tellHp_row rfl rfl rfl (fun j hj => rfl) (tellHp_row rfl rfl rfl (fun j hj => rfl) tellHp_nil))))⟩
  rw [if_neg (by simpa using h)] at hm
  subst hm
  refine bsplit_intro (fun h => ?_) (fun h => ?_)
  · rw [if_pos (by simpa using h)] at hv
    exact chk_intro (by kernel_rfl) ⟨tellV_v rfl (congrArg (Value.int .i64) hv), tellHp_box rfl rfl ⟨rfl, rfl, rfl, rfl, rfl, rfl, rfl, rfl, rfl, trivial⟩ (tellHp_row rfl rfl rfl (fun j hj => rfl) (tellHp_row rfl rfl rfl (fun j hj => rfl) (tellHp_row rfl rfl rfl (fun j hj => rfl) (tellHp_row rfl rfl rfl (fun j hj => rfl) tellHp_nil))))⟩
  rw [if_neg (by simpa using h)] at hv
  exact chk_intro (by kernel_rfl) ⟨tellV_v rfl (congrArg (Value.int .i64) hv), tellHp_box rfl rfl ⟨rfl, rfl, rfl, rfl, rfl, rfl, rfl, rfl, rfl, trivial⟩ (tellHp_row rfl rfl rfl (fun j hj => rfl) (tellHp_row rfl rfl rfl (fun j hj => rfl) (tellHp_row rfl rfl rfl (fun j hj => rfl) (tellHp_row rfl rfl rfl (fun j hj => rfl) tellHp_nil))))⟩
end Go.Proofs.Ytfcekiehcchebaa.L
