/- Plain facts on machines: what it means that nothing is wrong with one, and what stays so when a number is set. -/
import Derived.Test.YtfcekiehcchebaaDd
set_option linter.unusedVariables false
set_option linter.unusedSimpArgs false
set_option maxRecDepth 100000
namespace Go.Proofs.Ytfcekiehcchebaa.L
open Go.RowKit
structure HartM.right (m : HartM) : Prop where
  regs : m.regs.length = 16
  csr : m.csr.length = 11
  r0 : m.regs.getD 0 0 = 0
  wr : ∀ x ∈ m.regs, isW x = true
  wp : isW m.pc = true
  wc : ∀ x ∈ m.csr, isW x = true
  wi : ∀ x ∈ m.inp, isW x = true
  wo : ∀ x ∈ m.out, isW x = true
  inp : m.inp.length ≤ 40
  out : m.out.length ≤ 40
  done : inR m.done 0 1000000000 = true
  c0 : m.csr.getD 0 0 ≤ 3
  c7 : m.csr.getD 7 0 ≤ 7
  c10 : m.csr.getD 10 0 ≤ 8
  c6 : m.csr.getD 6 0 = 0
  c8 : m.csr.getD 8 0 = 0
theorem bif_zero {b : Bool} {x : Int} {n : Int} (h : (bif b then n else x) = 0) (hn : n ≠ 0) : b = false ∧ x = 0 := by cases b <;> simp_all
theorem hFault_right {m : HartM} (h : hFault m = 0) : m.right := by
  unfold hFault at h
  obtain ⟨h1, h⟩ := bif_zero h (by decide)
  obtain ⟨h2, h⟩ := bif_zero h (by decide)
  obtain ⟨h3, h⟩ := bif_zero h (by decide)
  obtain ⟨h4, h⟩ := bif_zero h (by decide)
  obtain ⟨h5, h⟩ := bif_zero h (by decide)
  simp only [Bool.or_eq_false_iff, bne_eq_false_iff_eq, Bool.not_eq_eq_eq_not, Bool.not_false, decide_eq_false_iff_not, List.all_eq_true] at h1 h2 h3 h4 h5
  exact ⟨by omega, by omega, h1.2.2, h2.1, h2.2.1, h2.2.2.1, h2.2.2.2.1, h2.2.2.2.2, by omega, by omega, h4, by omega, by omega, by omega, h5.2.2.2.1, h5.2.2.2.2⟩
theorem right_hFault {m : HartM} (h : m.right) : hFault m = 0 := by
  obtain ⟨h1, h2, h3, h4, h5, h6, h7, h8, h9, h10, h11, h12, h13, h14, h15, h16⟩ := h
  have a4 : m.regs.all isW = true := List.all_eq_true.2 h4
  have a6 : m.csr.all isW = true := List.all_eq_true.2 h6
  have a7 : m.inp.all isW = true := List.all_eq_true.2 h7
  have a8 : m.out.all isW = true := List.all_eq_true.2 h8
  have b1 : decide ((m.inp.length : Int) > 40) = false := by simp; omega
  have b2 : decide ((m.out.length : Int) > 40) = false := by simp; omega
  have b3 : decide (m.csr.getD 0 0 > 3) = false := by simp only [decide_eq_false_iff_not]; omega
  have b4 : decide (m.csr.getD 7 0 > 7) = false := by simp only [decide_eq_false_iff_not]; omega
  have b5 : decide (m.csr.getD 10 0 > 8) = false := by simp only [decide_eq_false_iff_not]; omega
  unfold hFault
  rw [h1, h2, h3, a4, h5, a6, a7, a8, b1, b2, h11, b3, b4, b5, h15, h16]
  rfl
theorem set_get (l : List Int) (i j : Nat) (v : Int) (hi : i < l.length) : (l.set i v).getD j 0 = if j = i then v else l.getD j 0 := by
  by_cases e : j = i
  · subst e; simp [List.getD, hi]
  · rw [if_neg e]; simp [List.getD, List.getElem?_set_ne (Ne.symm e)]
theorem mem_set_all {l : List Int} {i : Nat} {v : Int} {p : Int → Bool} (h : ∀ x ∈ l, p x = true) (hv : p v = true) : ∀ x ∈ l.set i v, p x = true := fun x hx => by
  rcases List.mem_or_eq_of_mem_set hx with h1 | rfl
  · exact h x h1
  · exact hv
theorem isW_iff {n : Int} : isW n = true ↔ 0 ≤ n ∧ n ≤ 4294967295 := by simp [isW, inR]
theorem setCsrL_right {m : HartM} (h : m.right) {k v : Int} (hk : 0 ≤ k) (hk2 : k ≤ 10) (hv : 0 ≤ v) (hv2 : v ≤ 4294967295) (a : k = 0 → v ≤ 3) (b : k = 7 → v ≤ 7) (c : k = 10 → v ≤ 8) (d : k ≠ 6) (e : k ≠ 8) : (setCsrL m k v).right := by
  obtain ⟨h1, h2, h3, h4, h5, h6, h7, h8, h9, h10, h11, h12, h13, h14, h15, h16⟩ := h
  have hi : k.toNat < m.csr.length := by omega
  unfold setCsrL
  refine ⟨h1, by simpa using h2, h3, h4, h5, mem_set_all h6 (isW_iff.2 ⟨hv, hv2⟩), h7, h8, h9, h10, h11, ?_, ?_, ?_, ?_, ?_⟩
  all_goals
    dsimp only
    rw [set_get _ _ _ _ hi]
    split <;> omega
theorem tmod_w (w n : Int) (hn : 0 < n) : 0 ≤ Int.tmod (wrapW w) n ∧ Int.tmod (wrapW w) n < n := tmod_in (wrapW_le w).1 hn
theorem setM_right {m : HartM} (h : m.right) (k w : Int) (hk : 0 ≤ k) (hk2 : k ≤ 10) : (setM m k w).right := by
  have a1 := wrapW_le w
  have a2 := tmod_w w 4 (by omega)
  have a3 := tmod_w w 8 (by omega)
  unfold setM
  split
  · exact setCsrL_right h hk hk2 (by omega) (by omega) (by omega) (by omega) (by omega) (by omega) (by omega)
  split
  · exact setCsrL_right h hk hk2 (by omega) (by omega) (by omega) (by omega) (by omega) (by omega) (by omega)
  split
  · exact setCsrL_right h hk hk2 (by split <;> omega) (by split <;> omega) (by omega) (by omega) (by intro _; split <;> omega) (by omega) (by omega)
  split
  · obtain ⟨h1, h2, h3, h4, h5, h6, h7, h8, h9, h10, h11, h12, h13, h14, h15, h16⟩ := h
    exact ⟨h1, h2, h3, h4, h5, h6, h7, h8, h9, h10, h11, h12, h13, h14, h15, h16⟩
  split
  · exact h
  · exact setCsrL_right h hk hk2 (by omega) (by omega) (by omega) (by omega) (by omega) (by omega) (by omega)
theorem setM_idem (m : HartM) (k w : Int) : setM (setM m k w) k w = setM m k w := by
  have set2 : ∀ v : Int, setCsrL (setCsrL m k v) k v = setCsrL m k v := fun v => by unfold setCsrL; simp [List.set_set]
  by_cases h0 : k = 0
  · simp only [setM, if_pos h0]; exact set2 _
  by_cases h7 : k = 7
  · simp only [setM, if_neg h0, if_pos h7]; exact set2 _
  by_cases h10 : k = 10
  · simp only [setM, if_neg h0, if_neg h7, if_pos h10]; exact set2 _
  by_cases h6 : k = 6
  · simp only [setM, if_neg h0, if_neg h7, if_neg h10, if_pos h6]
    cases m.rung <;> simp
  by_cases h8 : k = 8
  · simp only [setM, if_neg h0, if_neg h7, if_neg h10, if_neg h6, if_pos h8]
  · simp only [setM, if_neg h0, if_neg h7, if_neg h10, if_neg h6, if_neg h8]; exact set2 _
theorem setM_csr (m : HartM) (k w : Int) (hm : m.csr.length = 11) (hk : 0 ≤ k) (hk2 : k ≤ 10) (i : Int) (hi : 0 ≤ i) (hne : i ≠ k) : (setM m k w).csr.getD i.toNat 0 = m.csr.getD i.toNat 0 ∧ (setM m k w).done = m.done := by
  have st : ∀ v : Int, (setCsrL m k v).csr.getD i.toNat 0 = m.csr.getD i.toNat 0 ∧ (setCsrL m k v).done = m.done := fun v => by
    refine ⟨?_, rfl⟩
    show (m.csr.set k.toNat v).getD i.toNat 0 = _
    rw [set_get _ _ _ _ (by omega), if_neg (by omega)]
  unfold setM
  split
  · exact st _
  split
  · exact st _
  split
  · exact st _
  split
  · exact ⟨rfl, rfl⟩
  split
  · exact ⟨rfl, rfl⟩
  · exact st _
theorem getCsr_set (m : HartM) (k w : Int) (h : m.right) (hk : 0 ≤ k) (hk2 : k ≤ 10) (i : Int) (hi : 0 ≤ i) (hi2 : i ≤ 10) (hne : i ≠ k) (h6 : i ≠ 6) : getCsr (setM m k w) i = getCsr m i := by
  obtain ⟨e1, e2⟩ := setM_csr m k w h.csr hk hk2 i hi hne
  unfold getCsr csrOf
  rw [right_hFault h, right_hFault (setM_right h k w hk hk2), e1, e2, if_neg h6, if_neg h6]
theorem getCsr_right {m : HartM} (h : m.right) (i : Int) (hi : 0 ≤ i) (hi2 : i ≤ 10) : getCsr m i = (0, csrOf m i) := by
  unfold getCsr
  rw [if_pos (right_hFault h), if_pos (inR_iff.2 ⟨hi, hi2⟩)]
theorem setM_5 (m : HartM) (w : Int) (h : m.csr.length = 11) : csrOf (setM m 5 w) 5 = wrapW w := by
  show (if (5 : Int) = 6 then _ else if (5 : Int) = 8 then _ else _) = _
  rw [if_neg (by decide), if_neg (by decide)]
  show (m.csr.set 5 (wrapW w)).getD 5 0 = _
  rw [set_get _ _ _ _ (by omega), if_pos rfl]
theorem setM_8 (m : HartM) (w : Int) : csrOf (setM m 8 w) 8 = m.done := rfl
end Go.Proofs.Ytfcekiehcchebaa.L
