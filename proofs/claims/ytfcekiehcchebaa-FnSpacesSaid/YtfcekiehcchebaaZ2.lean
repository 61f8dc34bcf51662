/- The law FnSpaces answers true at every input that its statement lets in. -/
import Derived.Test.YtfcekiehcchebaaRows
import Derived.Test.YtfcekiehcchebaaZ1
/- Memories drawn: contracts. -/
set_option linter.unusedVariables false
set_option linter.unusedSimpArgs false
set_option maxRecDepth 100000
namespace Go.Proofs.Ytfcekiehcchebaa.L
open Go.RowKit
theorem rep_intsB (n j : Nat) (hj : j < n) : [D.v (.int .i64 0)] = intsF (List.replicate n 0) j := by
  show _ = [D.v (.int .i64 ((List.replicate n (0 : Int)).getD j 0))]
  simp [List.getD, hj]
theorem c_spec_NewMemory (n : Int) (h1 : 1 ≤ n) (h2 : n ≤ 24) : FnOK Try.prog 145 [di n] (.r (irsR (0, List.replicate (8 * n.toNat) 0))) := by
  have hin : inR n 1 24 = true := inR_iff.2 ⟨h1, h2⟩
  have c1 := c_spec_l1In n 1 24
  rw [hin] at c1
  have hw : IntKind.i64.wrap (n * 8) = n * 8 := wrap_i64 _ (by omega) (by omega)
  refine fn_of lv145 Try.func145 rfl rfl (by kernel_rfl) rfl ?_
  refine .inl ⟨_, _, rfl, c1, rfl, ?_⟩
  repeat' (first | refine bsplit_true ?_ | refine bsplit_false ?_)
  refine ask_intro ⟨rfl, by show 0 ≤ IntKind.i64.wrap (n * 8); omega, by show IntKind.i64.wrap (n * 8) * 8 ≤ 140737488355328; omega, by omega⟩ ?_
  exact ⟨⟨rfl, ⟨rfl, rfl, (show (IntKind.i64.wrap (n * 8)).toNat = (List.replicate (8 * n.toNat) (0 : Int)).length by rw [hw, List.length_replicate]; omega), fun j hj => ⟨rep_intsB _ j (by rw [List.length_replicate] at hj; exact hj), rfl⟩⟩, trivial⟩, rfl⟩
set_option maxHeartbeats 3200000 in
theorem c_spec_l3Memory (c : List Int) (hc : okCode c) (p : Int) (hp : 0 ≤ p) (hp2 : p ≤ 1000000) : MutS Try.prog 147 [.ptr 0 0] 1 [(0, srcBox c p)]
    (fun lv m' hp1 => ∃ (l : List Int) (q : Int), l.length ≤ 200 ∧ p ≤ q ∧ q ≤ p + 400 ∧ lv = .d (ints l) ∧ m' = 1 ∧ hp1 = [(0, srcBox c q)]) := by
  have h5 := nx_in (c := c) hc (p := p) (n := 5) (by omega) (by omega)
  have c5 := c_spec_l1Next c hc p 5 (by omega) (by omega)
  have hw5 : IntKind.i64.wrap (1 + nx c p 5) = 1 + nx c p 5 := wrap_i64 _ (by omega) (by omega)
  have cm := c_spec_NewMemory (IntKind.i64.wrap (1 + nx c p 5)) (by omega) (by omega)
  obtain ⟨N, hN⟩ : ∃ N, N = 8 * (IntKind.i64.wrap (1 + nx c p 5)).toNat := ⟨_, rfl⟩
  have hN1 : 8 ≤ N ∧ N ≤ 40 := by rw [hN, hw5]; omega
  rw [← hN] at cm
  refine mutS_fn_of lv147 Try.func147 rfl rfl (by kernel_rfl) rfl ?_
  refine .inr ⟨rfl, use_mut ⟨_, _, _, _, _, _, rfl, rfl, c5, rfl, ?_⟩⟩
  refine .inl ⟨_, _, rfl, cm, rfl, ?_⟩
  refine ⟨{ x : List Int × Nat × Int // x.1.length = N ∧ x.2.1 ≤ N ∧ p + 1 ≤ x.2.2 ∧ x.2.2 ≤ p + 1 + 6 * x.2.1 }, fun x => ⟨frL [(0, .ptr 0 0), (3, .row 11), (4, di x.1.2.1)], hpL [(0, srcBox c x.1.2.2), (11, rowE x.1.1)], 100, 1⟩, fun x => N - x.1.2.1, ⟨(List.replicate N 0, 0, p + 1), List.length_replicate, Nat.zero_le _, by show p + 1 ≤ p + 1; omega, by show p + 1 ≤ p + 1 + 6 * ((0 : Nat) : Int); omega⟩,
    le_of [(11, 4194)] rfl rfl rfl rfl (tellHp_box rfl rfl ⟨DLe.refl _, rfl, trivial⟩ (tellHp_row rfl rfl rfl (fun j hj => rfl) tellHp_nil)) (tellFr_ptr rfl rfl (tellFr_row rfl rfl (tellFr_v rfl rfl trivial))), ?_⟩
  rintro ⟨⟨l, i, q⟩, hl, hi, hq1, hq2⟩
  simp only at hl hi hq1 hq2
  by_cases h : i < N
  · have hwi := congrArg (Value.int .i64) (wrap1 h (by omega))
    have cc := c_spec_l1Chance c hc q 3 (by omega) (by omega)
    have cw := c_spec_l1Word c hc (q + 1) (by omega) (by omega)
    refine bsplit_of_true (decide_eq_true (show (i : Int) < (l.length : Int) by omega)) ?_
    refine .inr ⟨rfl, use_mut ⟨_, _, _, _, _, _, rfl, rfl, cc, rfl, ?_⟩⟩
    refine bsplit_intro (fun h6 => ?_) (fun h6 => ?_)
    · refine .inr ⟨rfl, use_mut ⟨_, _, _, _, _, _, rfl, rfl, cw, rfl, ?_⟩⟩
      refine ask_intro ⟨by omega, by show (i : Int) < (l.length : Int); omega⟩ ?_
      refine ask_intro (by show i < l.length; omega) ?_
      exact ⟨⟨(l.set i (wd c (q + 1)), i + 1, q + 1 + 5), by show (l.set i _).length = N; rw [List.length_set]; exact hl, by show i + 1 ≤ N; omega, by show p + 1 ≤ q + 1 + 5; omega, by show q + 1 + 5 ≤ p + 1 + 6 * ((i + 1 : Nat) : Int); omega⟩,
        le_of [(11, 11)] rfl rfl rfl rfl (tellHp_box rfl rfl ⟨DLe.refl _, rfl, trivial⟩ (tellHp_row rfl rfl (show l.length = (l.set i (wd c (q + 1))).length by rw [List.length_set]) (fun j hj => set_at (l := l) (i := i) rfl (by omega)) tellHp_nil)) (tellFr_ptr rfl rfl (tellFr_row rfl rfl (tellFr_v rfl hwi trivial))), by show N - (i + 1) < N - i; omega⟩
    · exact ⟨⟨(l, i + 1, q + 1), hl, by show i + 1 ≤ N; omega, by show p + 1 ≤ q + 1; omega, by show q + 1 ≤ p + 1 + 6 * ((i + 1 : Nat) : Int); omega⟩,
        le_of [(11, 11)] rfl rfl rfl rfl (tellHp_box rfl rfl ⟨DLe.refl _, rfl, trivial⟩ (tellHp_row rfl rfl rfl (fun j hj => rfl) tellHp_nil)) (tellFr_ptr rfl rfl (tellFr_row rfl rfl (tellFr_v rfl hwi trivial))), by show N - (i + 1) < N - i; omega⟩
  · obtain rfl : i = N := by omega
    have c16 := c_spec_l1Next c hc q 16 (by omega) (by omega)
    refine bsplit_of_false (decide_eq_false (show ¬ (i : Int) < (l.length : Int) by omega)) ?_
    refine .inr ⟨rfl, use_mut ⟨_, _, _, _, _, _, rfl, rfl, c16, rfl, ?_⟩⟩
    refine bsplit_intro (fun e => ?_) (fun e => ?_)
    · refine ask_intro ⟨by omega, by show (1 : Int) ≤ (l.length : Int); omega, by show (l.length : Int) ≤ (l.length : Int); omega, .inr (fun i hi => rfl)⟩ ?_
      exact ⟨_, _, _, [], ⟨l.drop 1, q + 1, by rw [List.length_drop]; omega, by omega, by omega, rfl, rfl, rfl⟩,
        chk_intro (by kernel_rfl) ⟨DLe.l (show ((l.length : Int) - 1).toNat = (l.drop 1).length by rw [List.length_drop]; omega) (fun j hj => drop_intsB l 1 j), tellHp_box rfl rfl ⟨DLe.refl _, rfl, trivial⟩ tellHp_nil⟩⟩
    refine bsplit_intro (fun e1 => ?_) (fun e1 => ?_)
    · have hnl := nx_in (c := c) hc (p := q + 1) (n := (l.length : Int)) (by omega) (by omega)
      have cl := c_spec_l1Next c hc (q + 1) (l.length : Int) (by omega) (by omega)
      have cp := pick2 c hc (q + 1 + 1) (-1) 4294967296 (by omega) (by omega)
      refine .inr ⟨rfl, use_mut ⟨_, _, _, _, _, _, rfl, rfl, cl, rfl, ?_⟩⟩
      refine .inr ⟨rfl, use_mut ⟨_, _, _, _, _, _, rfl, rfl, cp, rfl, ?_⟩⟩
      refine ask_intro ⟨hnl.1, by show nx c (q + 1) (l.length : Int) < (l.length : Int); omega⟩ ?_
      refine ask_intro (by show (nx c (q + 1) (l.length : Int)).toNat < l.length; omega) ?_
      exact ⟨_, _, _, [], ⟨l.set (nx c (q + 1) (l.length : Int)).toNat (pk c (q + 1 + 1) [-1, 4294967296]), q + 1 + 1 + 1, by rw [List.length_set]; omega, by omega, by omega, rfl, rfl, rfl⟩,
        chk_intro (by kernel_rfl) ⟨tellV_frz rfl rfl rfl (DLe.l (show l.length = (l.set (nx c (q + 1) (l.length : Int)).toNat _).length by rw [List.length_set]) (fun j hj => set_at (l := l) (i := (nx c (q + 1) (l.length : Int)).toNat) rfl (by omega))), tellHp_box rfl rfl ⟨DLe.refl _, rfl, trivial⟩ tellHp_nil⟩⟩
    refine bsplit_intro (fun e2 => ?_) (fun e2 => ?_)
    · refine ask_intro ⟨rfl, by decide, by decide, by decide⟩ ?_
      exact ⟨_, _, _, [], ⟨List.replicate 200 0, q + 1, by simp, by omega, by omega, rfl, rfl, rfl⟩,
        chk_intro (by kernel_rfl) ⟨tellV_frz rfl rfl rfl (DLe.l (show 200 = (List.replicate 200 (0 : Int)).length by simp) (fun j hj => rep_intsB 200 j hj)), tellHp_box rfl rfl ⟨DLe.refl _, rfl, trivial⟩ tellHp_nil⟩⟩
    · exact ⟨_, _, _, [], ⟨l, q + 1, by omega, by omega, by omega, rfl, rfl, rfl⟩,
        chk_intro (by kernel_rfl) ⟨tellV_frz rfl rfl rfl (DLe.refl _), tellHp_box rfl rfl ⟨DLe.refl _, rfl, trivial⟩ tellHp_nil⟩⟩
end Go.Proofs.Ytfcekiehcchebaa.L

/- What the functions compute that draw a machine and what is done to it: contracts. -/
set_option linter.unusedVariables false
set_option linter.unusedSimpArgs false
set_option maxRecDepth 100000
namespace Go.Proofs.Ytfcekiehcchebaa.L
open Go.RowKit
abbrev hartSh (m : HartM) : RV1 := .agg [.sh (ints m.regs), .v (.int .i64 m.pc), .sh (ints m.csr), .v (.bool m.halted), .v (.bool m.waiting), .v (.bool m.rung), .v (.int .i64 m.done), .sh (ints m.inp), .sh (ints m.out)]
theorem c_laws_lwBig (c : List Int) (hc : c.length ≤ 9223372036854775807) : FnOK Try.prog 29 [.d (bytesD c)] (rb (decide ((c.length : Int) > 1048576))) := by
  refine fn_of lv29 Try.func29 rfl rfl (by kernel_rfl) rfl ?_
  exact ⟨⟨rfl, trivial⟩, rfl⟩
theorem c_laws_lwNums (l m : List Int) (hl : l.length ≤ 9223372036854775807) : FnOK Try.prog 34 [.d (ints l), .d (ints m)] (rb (l == m)) := by
  refine fn_of lv34 Try.func34 rfl rfl rfl rfl ?_
  refine bsplit_intro (fun h => ?_) (fun h => ?_)
  · refine ⟨⟨congrArg Value.bool (?_ : false = _), trivial⟩, rfl⟩
    simp at h
    symm
    rw [beq_eq_false_iff_ne]
    rintro rfl
    exact h rfl
  have hlen : l.length = m.length := by simp at h; omega
  refine ⟨{ i : Nat // i ≤ l.length ∧ (l.drop i == m.drop i) = (l == m) }, fun i => ⟨frL [(0, .d (ints l)), (1, .d (ints m)), (5, di i.1)], hpL [], 0, 0⟩, fun i => l.length - i.1, ⟨0, by simp⟩,
    le_of [] rfl rfl rfl rfl trivial (tellFr_d rfl (DLe.refl _) (tellFr_d rfl (DLe.refl _) (tellFr_v rfl rfl trivial))), ?_⟩
  rintro ⟨i, hi, hall⟩
  refine bsplit_intro (fun h => ?_) (fun h => ?_)
  · have h : i < l.length := by simp at h; exact h
    have hd : (l.drop i == m.drop i) = ((l.getD i 0 == m.getD i 0) && (l.drop (i + 1) == m.drop (i + 1))) := by
      rw [drop_cons l i h, drop_cons m i (by omega)]
      exact List.cons_beq_cons
    refine ask_intro ⟨by omega, by simp; omega, rfl⟩ ?_
    refine ask_intro ⟨by omega, by simp; omega, rfl⟩ ?_
    refine chk_intro rfl ?_
    refine bsplit_intro (fun h2 => ?_) (fun h2 => ?_)
    · refine ⟨⟨congrArg Value.bool (?_ : false = _), trivial⟩, rfl⟩
      have h2 : (l.getD i 0 != m.getD i 0) = true := h2
      rw [← hall, hd]
      have h2 : (l.getD i 0 == m.getD i 0) = false := by simpa [bne] using h2
      rw [h2]; rfl
    · have h2 : (l.getD i 0 != m.getD i 0) = false := h2
      refine ⟨⟨i + 1, by omega, ?_⟩, le_of [] rfl rfl rfl rfl trivial (tellFr_d rfl (DLe.refl _) (tellFr_d rfl (DLe.refl _) (tellFr_v rfl (congrArg (Value.int .i64) (?_ : IntKind.i64.wrap ((i : Int) + 1) = ((i + 1 : Nat) : Int))) trivial))), ?_⟩
      · rw [← hall, hd]
        have h2 : (l.getD i 0 == m.getD i 0) = true := by simpa [bne] using h2
        rw [h2]; rfl
      · exact wrap_i64 (i + 1) (by omega) (by omega)
      · show l.length - (i + 1) < l.length - i
        omega
  · refine ⟨⟨congrArg Value.bool (?_ : true = _), trivial⟩, rfl⟩
    simp at h
    rw [← hall, List.drop_eq_nil_of_le h, List.drop_eq_nil_of_le (by omega)]; rfl
end Go.Proofs.Ytfcekiehcchebaa.L

/- Plain facts on machines: what it means that nothing is wrong with one, and what stays so when a number is set. -/
set_option linter.unusedVariables false
set_option linter.unusedSimpArgs false
set_option maxRecDepth 100000
namespace Go.Proofs.Ytfcekiehcchebaa.L
open Go.RowKit
structure HartM.right (m : HartM) : Prop where
  regs : m.regs.length = 16
  csr : m.csr.length = 11
  r0 : m.regs.getD 0 0 = 0
  wr : ∀ x ∈ m.regs, isW x = true
  wp : isW m.pc = true
  wc : ∀ x ∈ m.csr, isW x = true
  wi : ∀ x ∈ m.inp, isW x = true
  wo : ∀ x ∈ m.out, isW x = true
  inp : m.inp.length ≤ 40
  out : m.out.length ≤ 40
  done : inR m.done 0 1000000000 = true
  c0 : m.csr.getD 0 0 ≤ 3
  c7 : m.csr.getD 7 0 ≤ 7
  c10 : m.csr.getD 10 0 ≤ 8
  c6 : m.csr.getD 6 0 = 0
  c8 : m.csr.getD 8 0 = 0
theorem bif_zero {b : Bool} {x : Int} {n : Int} (h : (bif b then n else x) = 0) (hn : n ≠ 0) : b = false ∧ x = 0 := by cases b <;> simp_all
theorem hFault_right {m : HartM} (h : hFault m = 0) : m.right := by
  unfold hFault at h
  obtain ⟨h1, h⟩ := bif_zero h (by decide)
  obtain ⟨h2, h⟩ := bif_zero h (by decide)
  obtain ⟨h3, h⟩ := bif_zero h (by decide)
  obtain ⟨h4, h⟩ := bif_zero h (by decide)
  obtain ⟨h5, h⟩ := bif_zero h (by decide)
  simp only [Bool.or_eq_false_iff, bne_eq_false_iff_eq, Bool.not_eq_eq_eq_not, Bool.not_false, decide_eq_false_iff_not, List.all_eq_true] at h1 h2 h3 h4 h5
  exact ⟨by omega, by omega, h1.2.2, h2.1, h2.2.1, h2.2.2.1, h2.2.2.2.1, h2.2.2.2.2, by omega, by omega, h4, by omega, by omega, by omega, h5.2.2.2.1, h5.2.2.2.2⟩
theorem right_hFault {m : HartM} (h : m.right) : hFault m = 0 := by
  obtain ⟨h1, h2, h3, h4, h5, h6, h7, h8, h9, h10, h11, h12, h13, h14, h15, h16⟩ := h
  have a4 : m.regs.all isW = true := List.all_eq_true.2 h4
  have a6 : m.csr.all isW = true := List.all_eq_true.2 h6
  have a7 : m.inp.all isW = true := List.all_eq_true.2 h7
  have a8 : m.out.all isW = true := List.all_eq_true.2 h8
  have b1 : decide ((m.inp.length : Int) > 40) = false := by simp; omega
  have b2 : decide ((m.out.length : Int) > 40) = false := by simp; omega
  have b3 : decide (m.csr.getD 0 0 > 3) = false := by simp only [decide_eq_false_iff_not]; omega
  have b4 : decide (m.csr.getD 7 0 > 7) = false := by simp only [decide_eq_false_iff_not]; omega
  have b5 : decide (m.csr.getD 10 0 > 8) = false := by simp only [decide_eq_false_iff_not]; omega
  unfold hFault
  rw [h1, h2, h3, a4, h5, a6, a7, a8, b1, b2, h11, b3, b4, b5, h15, h16]
  rfl
theorem set_get (l : List Int) (i j : Nat) (v : Int) (hi : i < l.length) : (l.set i v).getD j 0 = if j = i then v else l.getD j 0 := by
  by_cases e : j = i
  · subst e; simp [List.getD, hi]
  · rw [if_neg e]; simp [List.getD, List.getElem?_set_ne (Ne.symm e)]
theorem mem_set_all {l : List Int} {i : Nat} {v : Int} {p : Int → Bool} (h : ∀ x ∈ l, p x = true) (hv : p v = true) : ∀ x ∈ l.set i v, p x = true := fun x hx => by
  rcases List.mem_or_eq_of_mem_set hx with h1 | rfl
  · exact h x h1
  · exact hv
theorem isW_iff {n : Int} : isW n = true ↔ 0 ≤ n ∧ n ≤ 4294967295 := by simp [isW, inR]
theorem setCsrL_right {m : HartM} (h : m.right) {k v : Int} (hk : 0 ≤ k) (hk2 : k ≤ 10) (hv : 0 ≤ v) (hv2 : v ≤ 4294967295) (a : k = 0 → v ≤ 3) (b : k = 7 → v ≤ 7) (c : k = 10 → v ≤ 8) (d : k ≠ 6) (e : k ≠ 8) : (setCsrL m k v).right := by
  obtain ⟨h1, h2, h3, h4, h5, h6, h7, h8, h9, h10, h11, h12, h13, h14, h15, h16⟩ := h
  have hi : k.toNat < m.csr.length := by omega
  unfold setCsrL
  refine ⟨h1, by simpa using h2, h3, h4, h5, mem_set_all h6 (isW_iff.2 ⟨hv, hv2⟩), h7, h8, h9, h10, h11, ?_, ?_, ?_, ?_, ?_⟩
  all_goals
    dsimp only
    rw [set_get _ _ _ _ hi]
    split <;> omega
theorem tmod_w (w n : Int) (hn : 0 < n) : 0 ≤ Int.tmod (wrapW w) n ∧ Int.tmod (wrapW w) n < n := tmod_in (wrapW_le w).1 hn
theorem setM_right {m : HartM} (h : m.right) (k w : Int) (hk : 0 ≤ k) (hk2 : k ≤ 10) : (setM m k w).right := by
  have a1 := wrapW_le w
  have a2 := tmod_w w 4 (by omega)
  have a3 := tmod_w w 8 (by omega)
  unfold setM
  split
  · exact setCsrL_right h hk hk2 (by omega) (by omega) (by omega) (by omega) (by omega) (by omega) (by omega)
  split
  · exact setCsrL_right h hk hk2 (by omega) (by omega) (by omega) (by omega) (by omega) (by omega) (by omega)
  split
  · exact setCsrL_right h hk hk2 (by split <;> omega) (by split <;> omega) (by omega) (by omega) (by intro _; split <;> omega) (by omega) (by omega)
  split
  · obtain ⟨h1, h2, h3, h4, h5, h6, h7, h8, h9, h10, h11, h12, h13, h14, h15, h16⟩ := h
    exact ⟨h1, h2, h3, h4, h5, h6, h7, h8, h9, h10, h11, h12, h13, h14, h15, h16⟩
  split
  · exact h
  · exact setCsrL_right h hk hk2 (by omega) (by omega) (by omega) (by omega) (by omega) (by omega) (by omega)
theorem setM_idem (m : HartM) (k w : Int) : setM (setM m k w) k w = setM m k w := by
  have set2 : ∀ v : Int, setCsrL (setCsrL m k v) k v = setCsrL m k v := fun v => by unfold setCsrL; simp [List.set_set]
  by_cases h0 : k = 0
  · simp only [setM, if_pos h0]; exact set2 _
  by_cases h7 : k = 7
  · simp only [setM, if_neg h0, if_pos h7]; exact set2 _
  by_cases h10 : k = 10
  · simp only [setM, if_neg h0, if_neg h7, if_pos h10]; exact set2 _
  by_cases h6 : k = 6
  · simp only [setM, if_neg h0, if_neg h7, if_neg h10, if_pos h6]
    cases m.rung <;> simp
  by_cases h8 : k = 8
  · simp only [setM, if_neg h0, if_neg h7, if_neg h10, if_neg h6, if_pos h8]
  · simp only [setM, if_neg h0, if_neg h7, if_neg h10, if_neg h6, if_neg h8]; exact set2 _
theorem setM_csr (m : HartM) (k w : Int) (hm : m.csr.length = 11) (hk : 0 ≤ k) (hk2 : k ≤ 10) (i : Int) (hi : 0 ≤ i) (hne : i ≠ k) : (setM m k w).csr.getD i.toNat 0 = m.csr.getD i.toNat 0 ∧ (setM m k w).done = m.done := by
  have st : ∀ v : Int, (setCsrL m k v).csr.getD i.toNat 0 = m.csr.getD i.toNat 0 ∧ (setCsrL m k v).done = m.done := fun v => by
    refine ⟨?_, rfl⟩
    show (m.csr.set k.toNat v).getD i.toNat 0 = _
    rw [set_get _ _ _ _ (by omega), if_neg (by omega)]
  unfold setM
  split
  · exact st _
  split
  · exact st _
  split
  · exact st _
  split
  · exact ⟨rfl, rfl⟩
  split
  · exact ⟨rfl, rfl⟩
  · exact st _
theorem getCsr_set (m : HartM) (k w : Int) (h : m.right) (hk : 0 ≤ k) (hk2 : k ≤ 10) (i : Int) (hi : 0 ≤ i) (hi2 : i ≤ 10) (hne : i ≠ k) (h6 : i ≠ 6) : getCsr (setM m k w) i = getCsr m i := by
  obtain ⟨e1, e2⟩ := setM_csr m k w h.csr hk hk2 i hi hne
  unfold getCsr csrOf
  rw [right_hFault h, right_hFault (setM_right h k w hk hk2), e1, e2, if_neg h6, if_neg h6]
theorem getCsr_right {m : HartM} (h : m.right) (i : Int) (hi : 0 ≤ i) (hi2 : i ≤ 10) : getCsr m i = (0, csrOf m i) := by
  unfold getCsr
  rw [if_pos (right_hFault h), if_pos (inR_iff.2 ⟨hi, hi2⟩)]
theorem setM_5 (m : HartM) (w : Int) (h : m.csr.length = 11) : csrOf (setM m 5 w) 5 = wrapW w := by
  show (if (5 : Int) = 6 then _ else if (5 : Int) = 8 then _ else _) = _
  rw [if_neg (by decide), if_neg (by decide)]
  show (m.csr.set 5 (wrapW w)).getD 5 0 = _
  rw [set_get _ _ _ _ (by omega), if_pos rfl]
theorem setM_8 (m : HartM) (w : Int) : csrOf (setM m 8 w) 8 = m.done := rfl
end Go.Proofs.Ytfcekiehcchebaa.L

/- What the functions compute that tell a guest's own view: contracts. -/
set_option linter.unusedVariables false
set_option linter.unusedSimpArgs false
set_option maxRecDepth 100000
namespace Go.Proofs.Ytfcekiehcchebaa.L
open Go.RowKit
theorem firstNZ_zero {l : List Int} (h : firstNZ l = 0) : ∀ x ∈ l, x = 0 := by
  induction l with
  | nil => intro x hx; simp at hx
  | cons a l ih =>
    simp only [firstNZ] at h
    split at h
    · rename_i h0
      intro x hx
      rcases List.mem_cons.1 hx with rfl | hx
      · exact h0
      · exact ih h x hx
    · rename_i h0
      exact absurd h h0
theorem pagesFault_ok {l : List PageM} {top : Int} (h : pagesFault l top = 0) : PgsOK l top := by
  unfold pagesFault at h
  obtain ⟨h1, h⟩ := bif_zero h (by decide)
  obtain ⟨h2, h⟩ := bif_zero h (by decide)
  refine ⟨by simp at h2; omega, fun p hp => ?_⟩
  have h3 := firstNZ_zero h _ (List.mem_map_of_mem hp)
  unfold pageBad at h3
  obtain ⟨h4, h3⟩ := bif_zero h3 (by decide)
  simp only [Bool.or_eq_false_iff, Bool.not_eq_eq_eq_not, Bool.not_false, inR_iff] at h4
  omega
structure MemOK (m : List Int) : Prop where
  pos : 0 < m.length
  le : m.length ≤ 192
  mod : m.length % 8 = 0
  word : ∀ x ∈ m, isW x = true
theorem memFault_ok {m : List Int} (h : memFault m = 0) : MemOK m := by
  unfold memFault at h
  obtain ⟨h1, h⟩ := bif_zero h (by decide)
  obtain ⟨h2, h⟩ := bif_zero h (by decide)
  simp only [Bool.or_eq_false_iff, bne_eq_false_iff_eq, beq_eq_false_iff_ne, decide_eq_false_iff_not] at h1
  have h3 : Int.tmod (m.length : Int) 8 = (m.length : Int) % 8 := Int.tmod_eq_emod_of_nonneg (by omega)
  rw [h3] at h1
  exact ⟨by omega, by omega, by omega, fun x hx => List.all_eq_true.1 (by simpa using h2) x hx⟩
abbrev pageTop (mem : List Int) : Int := IntKind.i64.wrap (Int.tdiv mem.length 8)
theorem pageTop_eq {mem : List Int} (h : MemOK mem) : pageTop mem * 8 = mem.length := by
  have h1 : Int.tdiv (mem.length : Int) 8 = (mem.length : Int) / 8 := Int.tdiv_eq_ediv_of_nonneg (by omega)
  have := h.mod
  have := h.le
  unfold pageTop
  rw [h1, wrap_i64 _ (by omega) (by omega)]
  omega
def stepF (m : HartM) (l : List PageM) (mem : List Int) : Int :=
  if hFault m = 0 then (if pagesFault l 24 = 0 then (bif (memFault mem != 0) || l.any (fun p => decide (p.to ≥ pageTop mem)) then 1 else 0) else pagesFault l 24) else hFault m
theorem firstNZ_two (a b : Int) : firstNZ [a, b] = if a = 0 then b else a := by
  simp only [firstNZ]
  split
  · split
    · rename_i h; exact h.symm
    · rfl
  · rfl
theorem c_impl_stepFault (m : HartM) (hs : m.small) (l : List PageM) (hl : l.length ≤ 1048576) (mem : List Int) (hm : mem.length ≤ 1048576) : FnOK Try.prog 99 [hartLV m, .d (pages l), .d (ints mem)] (ri (stepF m l mem)) := by
  generalize hr : stepF m l mem = r
  unfold stepF at hr
  have e2 := firstNZ_two (hFault m) (pagesFault l 24)
  have hz : (firstNZ [hFault m, pagesFault l 24] != 0) = false → hFault m = 0 ∧ pagesFault l 24 = 0 := fun h => by
    have := firstNZ_zero (by simpa only [bne_eq_false_iff_eq] using h)
    exact ⟨this _ (by simp), this _ (by simp)⟩
  have hn : (firstNZ [hFault m, pagesFault l 24] != 0) = true → firstNZ [hFault m, pagesFault l 24] = r := fun h => by
    have h : ¬ firstNZ [hFault m, pagesFault l 24] = 0 := by simpa only [bne_iff_ne, ne_eq] using h
    rw [e2] at h ⊢
    rw [← hr]
    split
    · rename_i h0
      rw [if_pos h0] at h
      rw [if_neg h]
    · rfl
  have hr1 : hFault m = 0 ∧ pagesFault l 24 = 0 → (bif (memFault mem != 0) || l.any (fun p => decide (p.to ≥ pageTop mem)) then 1 else 0 : Int) = r := fun h => by
    rw [if_pos h.1, if_pos h.2] at hr; exact hr
  refine fn_of lv99 Try.func99 rfl rfl (by kernel_rfl) rfl ?_
  refine .inl ⟨_, _, rfl, c_impl_HartFault m hs, rfl, ?_⟩
  refine .inl ⟨_, _, rfl, c_impl_PagesFault l 24 hl, rfl, ?_⟩
  refine .inl ⟨_, _, rfl, (c_impl_firstOf [hFault m, pagesFault l 24] (by simp)).weak ⟨LVLe.d (DLe.l rfl (fun i hi => litD_eq [hFault m, pagesFault l 24] i hi)), trivial⟩, rfl, ?_⟩
  refine bsplit_intro (fun h => ?_) (fun h => ?_)
  · exact ⟨⟨congrArg (Value.int .i64) (hn h), trivial⟩, rfl⟩
  have hr2 := hr1 (hz h)
  refine ask_intro (by decide) ?_
  refine .inl ⟨_, _, rfl, c_impl_MemoryFault mem hm, rfl, ?_⟩
  refine bsplit_intro (fun h1 => ?_) (fun h1 => ?_)
  · repeat' (first | refine bsplit_true ?_ | refine bsplit_false ?_)
    rw [h1] at hr2
    exact ⟨⟨congrArg (Value.int .i64) hr2, trivial⟩, rfl⟩
  rw [h1, Bool.false_or] at hr2
  repeat' (first | refine bsplit_true ?_ | refine bsplit_false ?_)
  refine .inl ⟨_, _, rfl, c_slices_ContainsFunc_Page1 137 (pageTop mem) (fun p => decide (p.to ≥ pageTop mem)) (fun x => c_impl_stepFault_1 x _) l (by omega), rfl, ?_⟩
  refine bsplit_intro (fun h2 => ?_) (fun h2 => ?_)
  · rw [h2] at hr2
    exact ⟨⟨congrArg (Value.int .i64) hr2, trivial⟩, rfl⟩
  · rw [h2] at hr2
    exact ⟨⟨congrArg (Value.int .i64) hr2, trivial⟩, rfl⟩
theorem stepF_any {l : List PageM} {mem : List Int} (hp : pagesFault l 24 = 0) (hm : memFault mem = 0) (i : Nat) (hi : i < l.length) :
    decide (IntKind.i64.wrap (IntKind.i64.wrap ((l.getD i ⟨0, 0⟩).to + 1) * 8) > (mem.length : Int)) = decide ((l.getD i ⟨0, 0⟩).to ≥ pageTop mem) := by
  have h1 := (pagesFault_ok hp).get (i := i) (by rw [← (pagesFault_ok hp).len]; exact hi)
  have h2 := pageTop_eq (memFault_ok hm)
  generalize (l.getD i ⟨0, 0⟩).to = t at *
  rw [wrap_i64 (t + 1) (by omega) (by omega), wrap_i64 _ (by omega) (by omega)]
  exact decide_eq_decide.2 (by omega)
theorem c_spec_l10Asked (m : HartM) (hs : m.small) (l : List PageM) (hl : l.length ≤ 1048576) (mem : List Int) (hm : mem.length ≤ 1048576) : FnOK Try.prog 96 [.dptr (hartD m), .d (pages l), .d (ints mem)] (ri (stepF m l mem)) := by
  generalize hr : stepF m l mem = r
  unfold stepF at hr
  have hany : pagesFault l 24 = 0 → memFault mem = 0 → ∀ i, i < l.length → _ := fun a b i hi => stepF_any a b i hi
  refine fn_of lv96 Try.func96 rfl rfl (by kernel_rfl) rfl ?_
  refine .inl ⟨_, _, rfl, c_spec_l8Fault m hs, rfl, ?_⟩
  refine bsplit_intro (fun h => ?_) (fun h => ?_)
  · rw [if_neg (by simpa using h)] at hr
    exact ⟨⟨congrArg (Value.int .i64) hr, trivial⟩, rfl⟩
  rw [if_pos (by simpa using h)] at hr
  refine .inl ⟨_, _, rfl, c_spec_PagesFault l 24 hl, rfl, ?_⟩
  refine bsplit_intro (fun h3 => ?_) (fun h3 => ?_)
  · rw [if_neg (by simpa using h3)] at hr
    exact ⟨⟨congrArg (Value.int .i64) hr, trivial⟩, rfl⟩
  have h3 : pagesFault l 24 = 0 := by simpa using h3
  rw [if_pos h3] at hr
  refine .inl ⟨_, _, rfl, c_spec_MemoryFault mem hm, rfl, ?_⟩
  refine bsplit_intro (fun h1 => ?_) (fun h1 => ?_)
  · rw [h1] at hr
    exact ⟨⟨congrArg (Value.int .i64) hr, trivial⟩, rfl⟩
  rw [h1, Bool.false_or] at hr
  have hany2 := hany h3 (by simpa using h1)
  refine ⟨{ i : Nat // i ≤ l.length ∧ (l.drop i).any (fun p => decide (p.to ≥ pageTop mem)) = l.any (fun p => decide (p.to ≥ pageTop mem)) }, fun i => ⟨frL [(1, .d (pages l)), (2, .d (ints mem)), (9, di i.1)], hpL [], 0, 0⟩, fun i => l.length - i.1, ⟨0, by omega, by simp⟩,
    le_of [] rfl rfl rfl rfl trivial (tellFr_d rfl (DLe.refl _) (tellFr_d rfl (DLe.refl _) (tellFr_v rfl rfl trivial))), ?_⟩
  rintro ⟨i, hi, hall⟩
  refine bsplit_intro (fun h => ?_) (fun h => ?_)
  · have h : i < l.length := by simp at h; exact h
    refine ask_intro ⟨by omega, by show (i : Int) < l.length; omega, rfl⟩ ?_
    refine bsplit_intro (fun h2 => ?_) (fun h2 => ?_)
    · have h2 := (hany2 i h).symm.trans h2
      rw [← hall, drop_anyG ⟨0, 0⟩ l _ i h, h2] at hr
      exact ⟨⟨congrArg (Value.int .i64) hr, trivial⟩, rfl⟩
    · have h2 := (hany2 i h).symm.trans h2
      exact ⟨⟨i + 1, by omega, by rw [← hall, drop_anyG ⟨0, 0⟩ l _ i h, h2]; rfl⟩, le_of [] rfl rfl rfl rfl trivial (tellFr_d rfl (DLe.refl _) (tellFr_d rfl (DLe.refl _) (tellFr_v rfl (congrArg (Value.int .i64) (wrap_i64 (i + 1) (by omega) (by omega) : IntKind.i64.wrap ((i : Int) + 1) = ((i + 1 : Nat) : Int))) trivial))), by show l.length - (i + 1) < l.length - i; omega⟩
  · simp at h
    rw [← hall, List.drop_eq_nil_of_le h] at hr
    exact ⟨⟨congrArg (Value.int .i64) hr, trivial⟩, rfl⟩
def idPages : List PageM := (List.range 8).map fun (i : Nat) => (⟨(i : Int), 7⟩ : PageM)
def spaceM (m : HartM) (l : List PageM) (mem : List Int) : Int × List PageM :=
  if m.csr.getD 10 0 = 0 then (0, idPages) else
  bif (decide ((l.getD (m.csr.getD 10 0 - 1).toNat ⟨0, 0⟩).to < 0) || (andI (l.getD (m.csr.getD 10 0 - 1).toNat ⟨0, 0⟩).kinds 1 == 0)) || (m.csr.getD 10 0 == 8) then (7, []) else (0, (pageW mem (l.getD (m.csr.getD 10 0 - 1).toNat ⟨0, 0⟩).to).map entryP)
/-- a machine over a memory with which nothing is wrong -/
structure StepOK (m : HartM) (l : List PageM) (mem : List Int) : Prop where
  hart : m.right
  pgs : PgsOK l 24
  ram : MemOK mem
  top : ∀ p ∈ l, (p.to + 1) * 8 ≤ mem.length
theorem stepF_ok {m : HartM} {l : List PageM} {mem : List Int} (h : stepF m l mem = 0) : StepOK m l mem := by
  unfold stepF at h
  split at h
  · rename_i h0
    split at h
    · rename_i h1
      obtain ⟨h2, _⟩ := bif_zero h (by decide)
      simp only [Bool.or_eq_false_iff, bne_eq_false_iff_eq] at h2
      refine ⟨hFault_right h0, pagesFault_ok h1, memFault_ok h2.1, fun p hp => ?_⟩
      have h3 := List.any_eq_false.1 h2.2 p hp
      have h4 := pageTop_eq (memFault_ok h2.1)
      simp only [decide_eq_true_eq] at h3
      omega
    · rename_i h1; exact absurd h h1
  · rename_i h0; exact absurd h h0
theorem StepOK.table {m : HartM} {l : List PageM} {mem : List Int} (h : StepOK m l mem) : 0 ≤ m.csr.getD 10 0 ∧ m.csr.getD 10 0 ≤ 8 := by
  refine ⟨?_, h.hart.c10⟩
  rw [getD_at _ (by rw [h.hart.csr]; omega)]
  exact (isW_iff.1 (h.hart.wc _ (List.getElem_mem _))).1
theorem StepOK.page {m : HartM} {l : List PageM} {mem : List Int} (h : StepOK m l mem) {i : Nat} (hi : i < 8) : -1 ≤ (l.getD i ⟨0, 0⟩).to ∧ (l.getD i ⟨0, 0⟩).to < 24 ∧ ((l.getD i ⟨0, 0⟩).to + 1) * 8 ≤ mem.length := by
  have h1 := h.pgs.get hi
  refine ⟨h1.1, h1.2, ?_⟩
  rw [getD_at _ (by rw [h.pgs.len]; exact hi)]
  exact h.top _ (List.getElem_mem _)
theorem pagesFrom_page {mem : List Int} (hm : MemOK mem) {p : Int} (h0 : 0 ≤ p) (h : (p + 1) * 8 ≤ mem.length) : pagesFrom (pageW mem p) = (0, (pageW mem p).map entryP) := by
  have h8 := pageW_len mem p h0 h
  have hw : (pageW mem p).all isW = true := List.all_eq_true.2 (fun x hx => hm.word x (List.mem_of_mem_drop (List.mem_of_mem_take hx)))
  unfold pagesFrom
  rw [h8, hw]
  rfl
theorem id_get (i : Nat) (hi : i < 8) : idPages.take i ++ [⟨(i : Int), 7⟩] = idPages.take (i + 1) := by
  have : i = 0 ∨ i = 1 ∨ i = 2 ∨ i = 3 ∨ i = 4 ∨ i = 5 ∨ i = 6 ∨ i = 7 := by omega
  rcases this with rfl | rfl | rfl | rfl | rfl | rfl | rfl | rfl <;> rfl
theorem c_impl_Hart_space (m : HartM) (l : List PageM) (mem : List Int) (ok : StepOK m l mem) : FnOK Try.prog 100 [.dptr (hartD m), .d (pages l), .d (ints mem)] (.r (pgsR (spaceM m l mem))) := by
  have hc := ok.hart.csr
  have ht := ok.table
  have hml := ok.ram.le
  have hpl := ok.pgs.len
  generalize hv : spaceM m l mem = v
  unfold spaceM at hv
  have hp := fun (h : 0 < m.csr.getD 10 0) => ok.page (i := (m.csr.getD 10 0 - 1).toNat) (by omega)
  have hw1 : IntKind.i64.wrap (m.csr.getD 10 0 - 1) = m.csr.getD 10 0 - 1 := wrap_i64 _ (by omega) (by omega)
  have cpf : ∀ to : Int, 0 ≤ to → (to + 1) * 8 ≤ mem.length → FnOK Try.prog 138 [.d (ints (pageW mem to))] (.r (pgsR (0, (pageW mem to).map entryP))) := fun to h1 h2 => by
    have := c_impl_PagesFrom (pageW mem to) (by rw [pageW_len mem to h1 h2]; omega)
    rwa [pagesFrom_page ok.ram h1 h2] at this
  refine fn_of lv100 Try.func100 rfl rfl (by kernel_rfl) rfl ?_
  refine ask_intro ⟨by omega, by show (10 : Int) < m.csr.length; omega, rfl⟩ ?_
  refine bsplit_intro (fun h => ?_) (fun h => ?_)
  · have h : IntKind.i64.wrap (m.csr.getD 10 0 - 1) < 0 := of_decide_eq_true h
    rw [if_pos (by omega)] at hv
    subst hv
    refine ⟨{ i : Nat // i ≤ 8 }, fun i => ⟨frL [(6, .ptr 10 0), (8, .row 11), (20, di i.1)], hpL [(10, .box 71 [di 0, dv (.slice none 0 0)]), (11, .row 129 2 (idPages.take i.1).length (pagesF (idPages.take i.1)))], 100, 0⟩, fun i => 8 - i.1, ⟨0, by omega⟩,
      le_of [(10, 0), (11, 12288)] rfl rfl rfl rfl (tellHp_box rfl rfl ⟨rfl, rfl, trivial⟩ (tellHp_row rfl rfl (show 0 = _ by simp) (fun j hj => absurd hj (by omega)) tellHp_nil)) (tellFr_ptr rfl rfl (tellFr_row rfl rfl (tellFr_v rfl rfl trivial))), ?_⟩
    rintro ⟨i, hi⟩
    have hlen : (idPages.take i).length = i := by rw [List.length_take]; show min i 8 = i; omega
    refine bsplit_intro (fun h2 => ?_) (fun h2 => ?_)
    · have h2 : i < 8 := by simp at h2; omega
      have htk := id_get i h2
      have hw : IntKind.i64.wrap ((i : Int) + 1) = ((i + 1 : Nat) : Int) := wrap_i64 (i + 1) (by omega) (by omega)
      refine ask_intro ⟨by show ((idPages.take i).length + 1) * 16 ≤ 140737488355328; omega, by show (idPages.take i).length + 1 ≤ 9223372036854775807; omega, one_len2 ⟨(i : Int), 7⟩⟩ ?_
      exact ⟨⟨i + 1, by omega⟩, le_of [(10, 10), (11, 8420)] rfl rfl rfl rfl (tellHp_box rfl rfl ⟨rfl, rfl, trivial⟩ (tellHp_row rfl rfl (show (idPages.take i).length + 1 = (idPages.take (i + 1)).length by rw [← htk]; simp) (fun j hj => (app_pages (idPages.take i) ⟨(i : Int), 7⟩ j hj).trans (by rw [htk])) tellHp_nil)) (tellFr_ptr rfl rfl (tellFr_row rfl rfl (tellFr_v rfl (congrArg (Value.int .i64) hw) trivial))), by show 8 - (i + 1) < 8 - i; omega⟩
    · have h2 : i = 8 := by simp at h2; omega
      subst h2
      exact ⟨⟨rfl, ⟨rfl, rfl, rfl, fun j hj => ⟨rfl, rfl⟩⟩, trivial⟩, rfl⟩
  have h : ¬ IntKind.i64.wrap (m.csr.getD 10 0 - 1) < 0 := of_decide_eq_false h
  have h0 : 0 < m.csr.getD 10 0 := by omega
  rw [if_neg (by omega)] at hv
  rw [← hw1] at hv
  refine ask_intro ⟨by show 0 ≤ IntKind.i64.wrap (m.csr.getD 10 0 - 1); omega, by show IntKind.i64.wrap (m.csr.getD 10 0 - 1) < l.length; omega, rfl⟩ ?_
  refine bsplit_intro (fun h1 => ?_) (fun h1 => ?_)
  · repeat' (first | refine bsplit_true ?_ | refine bsplit_false ?_)
    rw [show decide ((l.getD (IntKind.i64.wrap (m.csr.getD 10 0 - 1)).toNat ⟨0, 0⟩).to < 0) = true from h1] at hv
    subst hv
    exact ⟨⟨rfl, ⟨rfl, rfl⟩, trivial⟩, rfl⟩
  rw [show decide ((l.getD (IntKind.i64.wrap (m.csr.getD 10 0 - 1)).toNat ⟨0, 0⟩).to < 0) = false from h1, Bool.false_or] at hv
  have h1 : ¬ (l.getD (IntKind.i64.wrap (m.csr.getD 10 0 - 1)).toNat ⟨0, 0⟩).to < 0 := of_decide_eq_false h1
  repeat' (first | refine bsplit_true ?_ | refine bsplit_false ?_)
  refine ask_intro ⟨by show 0 ≤ IntKind.i64.wrap (m.csr.getD 10 0 - 1); omega, by show IntKind.i64.wrap (m.csr.getD 10 0 - 1) < l.length; omega, rfl⟩ ?_
  repeat' (first | refine bsplit_true ?_ | refine bsplit_false ?_)
  refine bsplit_intro (fun h2 => ?_) (fun h2 => ?_)
  · repeat' (first | refine bsplit_true ?_ | refine bsplit_false ?_)
    rw [show (andI (l.getD (IntKind.i64.wrap (m.csr.getD 10 0 - 1)).toNat ⟨0, 0⟩).kinds 1 == 0) = true from h2] at hv
    subst hv
    exact ⟨⟨rfl, ⟨rfl, rfl⟩, trivial⟩, rfl⟩
  rw [show (andI (l.getD (IntKind.i64.wrap (m.csr.getD 10 0 - 1)).toNat ⟨0, 0⟩).kinds 1 == 0) = false from h2, Bool.false_or] at hv
  repeat' (first | refine bsplit_true ?_ | refine bsplit_false ?_)
  refine bsplit_intro (fun h3 => ?_) (fun h3 => ?_)
  · have h3 : (IntKind.i64.wrap (m.csr.getD 10 0 - 1) == 7) = true := h3
    have h3 : IntKind.i64.wrap (m.csr.getD 10 0 - 1) = 7 := by simpa only [beq_iff_eq] using h3
    rw [show (m.csr.getD 10 0 == 8) = true by rw [beq_iff_eq]; omega] at hv
    subst hv
    exact ⟨⟨rfl, ⟨rfl, rfl⟩, trivial⟩, rfl⟩
  have h3 : (IntKind.i64.wrap (m.csr.getD 10 0 - 1) == 7) = false := h3
  have h3 : IntKind.i64.wrap (m.csr.getD 10 0 - 1) ≠ 7 := by simpa only [beq_eq_false_iff_ne] using h3
  rw [show (m.csr.getD 10 0 == 8) = false by rw [beq_eq_false_iff_ne]; omega] at hv
  subst hv
  have hp := hp h0
  rw [← hw1] at hp
  refine ask_intro ⟨by show 0 ≤ IntKind.i64.wrap (m.csr.getD 10 0 - 1); omega, by show IntKind.i64.wrap (m.csr.getD 10 0 - 1) < l.length; omega, rfl⟩ ?_
  refine .inl ⟨_, _, rfl, c_impl_pageOf mem (l.getD (IntKind.i64.wrap (m.csr.getD 10 0 - 1)).toNat ⟨0, 0⟩).to (by omega) (by omega) (by omega), rfl, ?_⟩
  refine .inl ⟨_, _, rfl, cpf (l.getD (IntKind.i64.wrap (m.csr.getD 10 0 - 1)).toNat ⟨0, 0⟩).to (by omega) (by omega), rfl, ?_⟩
  exact ⟨⟨rfl, ⟨rfl, rfl, rfl, fun j hj => ⟨rfl, rfl⟩⟩, trivial⟩, rfl⟩
abbrev busD (m : HartM) (l : List PageM) (mem : List Int) : List D := [pages l, ints mem, dI 0, ints m.regs, dI m.pc, ints m.csr, dB m.halted, dB m.waiting, dB m.rung, dI m.done, ints m.inp, ints m.out, dI 0]
theorem space_walk {m : HartM} {l : List PageM} {mem : List Int} (ok : StepOK m l mem) (h0 : 0 < m.csr.getD 10 0) :
    IntKind.i64.wrap (IntKind.i64.wrap (m.csr.getD 10 0 - 1) * 8) = (m.csr.getD 10 0 - 1) * 8 ∧ walkP l ((m.csr.getD 10 0 - 1) * 8) 1 = bif decide ((l.getD (m.csr.getD 10 0 - 1).toNat ⟨0, 0⟩).to < 0) || (andI (l.getD (m.csr.getD 10 0 - 1).toNat ⟨0, 0⟩).kinds 1 == 0) then -1 else (l.getD (m.csr.getD 10 0 - 1).toNat ⟨0, 0⟩).to * 8 := by
  have ht := ok.table
  have hin : inR ((m.csr.getD 10 0 - 1) * 8) 0 63 = true := inR_iff.2 ⟨by omega, by omega⟩
  have hd := div8 (a := (m.csr.getD 10 0 - 1) * 8) (by omega) (by omega)
  have e1 : Int.tdiv ((m.csr.getD 10 0 - 1) * 8) 8 = m.csr.getD 10 0 - 1 := by rw [Int.tdiv_eq_ediv_of_nonneg (by omega)]; omega
  have e2 : Int.tmod ((m.csr.getD 10 0 - 1) * 8) 8 = 0 := by rw [Int.tmod_eq_emod_of_nonneg (by omega)]; omega
  have ea : pageAt l ((m.csr.getD 10 0 - 1) * 8) = l.getD (m.csr.getD 10 0 - 1).toNat ⟨0, 0⟩ := by unfold pageAt; rw [hd.1, e1]
  have hw := fun h => (walk_get (at_ := (m.csr.getD 10 0 - 1) * 8) ok.pgs (by omega) hin h).1
  rw [ea, e2] at hw
  have ew : IntKind.i64.wrap (m.csr.getD 10 0 - 1) = m.csr.getD 10 0 - 1 := wrap_i64 _ (by omega) (by omega)
  refine ⟨by rw [ew, wrap_i64 _ (by omega) (by omega)], ?_⟩
  unfold walkP
  rw [hin, ea, e2]
  cases hb : decide ((l.getD (m.csr.getD 10 0 - 1).toNat ⟨0, 0⟩).to < 0) || (andI (l.getD (m.csr.getD 10 0 - 1).toNat ⟨0, 0⟩).kinds 1 == 0) with
  | true => rfl
  | false =>
    simp only [Bool.not_true, cond_false]
    rw [hw (of_decide_eq_false (Bool.or_eq_false_iff.1 hb).1)]
    omega
theorem c_spec_l10Space (m : HartM) (l : List PageM) (mem : List Int) (ok : StepOK m l mem) : FnOK Try.prog 97 [.dptr (busD m l mem)] (.tup [.one (oPages (spaceM m l mem).2), .one (.v (.bool ((spaceM m l mem).1 == 0)))]) := by
  have hc := ok.hart.csr
  have ht := ok.table
  have hml := ok.ram.le
  have hpl := ok.pgs.len
  generalize hv : spaceM m l mem = v
  unfold spaceM at hv
  have hp := fun (h : 0 < m.csr.getD 10 0) => ok.page (i := (m.csr.getD 10 0 - 1).toNat) (by omega)
  have hsw := fun h => space_walk ok h
  have cw := c_spec_l4Walk l hpl ((m.csr.getD 10 0 - 1) * 8) 1
  have cpf : ∀ to : Int, 0 ≤ to → (to + 1) * 8 ≤ mem.length → FnOK Try.prog 135 [.d (ints (pageW mem to))] (.r (pgsR (0, (pageW mem to).map entryP))) := fun to h1 h2 => by
    have := c_spec_PagesFrom (pageW mem to) (by rw [pageW_len mem to h1 h2]; omega)
    rwa [pagesFrom_page ok.ram h1 h2] at this
  by_cases h : m.csr.getD 10 0 = 0
  · rw [if_pos h] at hv
    subst hv
    refine fn_of lv97 Try.func97 rfl rfl (by kernel_rfl) rfl ?_
    refine ask_intro ⟨by omega, by show (10 : Int) < m.csr.length; omega, rfl⟩ ?_
    refine bsplit_of_true (show (m.csr.getD 10 0 == 0) = true from beq_iff_eq.2 h) ?_
    refine ⟨{ i : Nat // i ≤ 8 }, fun i => ⟨frL [(5, .row 11), (6, di i.1)], hpL [(11, .row 129 2 (idPages.take i.1).length (pagesF (idPages.take i.1)))], 100, 0⟩, fun i => 8 - i.1, ⟨0, by omega⟩,
      le_of [(11, 12288)] rfl rfl rfl rfl (tellHp_row rfl rfl (show 0 = _ by simp) (fun j hj => absurd hj (by omega)) tellHp_nil) (tellFr_row rfl rfl (tellFr_v rfl rfl trivial)), ?_⟩
    rintro ⟨i, hi⟩
    have hlen : (idPages.take i).length = i := by rw [List.length_take]; show min i 8 = i; omega
    refine bsplit_intro (fun h2 => ?_) (fun h2 => ?_)
    · have h2 : i < 8 := by simp at h2; omega
      have htk := id_get i h2
      have hw : IntKind.i64.wrap ((i : Int) + 1) = ((i + 1 : Nat) : Int) := wrap_i64 (i + 1) (by omega) (by omega)
      refine ask_intro ⟨by show ((idPages.take i).length + 1) * 16 ≤ 140737488355328; omega, by show (idPages.take i).length + 1 ≤ 9223372036854775807; omega, one_len2 ⟨(i : Int), 7⟩⟩ ?_
      exact ⟨⟨i + 1, by omega⟩, le_of [(11, 4324)] rfl rfl rfl rfl (tellHp_row rfl rfl (show (idPages.take i).length + 1 = (idPages.take (i + 1)).length by rw [← htk]; simp) (fun j hj => (app_pages (idPages.take i) ⟨(i : Int), 7⟩ j hj).trans (by rw [htk])) tellHp_nil) (tellFr_row rfl rfl (tellFr_v rfl (congrArg (Value.int .i64) hw) trivial)), by show 8 - (i + 1) < 8 - i; omega⟩
    · have h2 : i = 8 := by simp at h2; omega
      subst h2
      exact ⟨⟨⟨rfl, rfl, rfl, fun j hj => ⟨rfl, rfl⟩⟩, rfl, trivial⟩, rfl⟩
  rw [if_neg h] at hv
  have hsw := hsw (by omega)
  have hp := hp (by omega)
  rw [hsw.2, ← hsw.1] at cw
  have hsw2 := hsw.1
  clear hsw
  generalize hP : l.getD (m.csr.getD 10 0 - 1).toNat ⟨0, 0⟩ = P at *
  by_cases h8 : m.csr.getD 10 0 = 8
  · rw [beq_iff_eq.2 h8, Bool.or_true] at hv
    subst hv
    refine fn_of lv97 Try.func97 rfl rfl (by kernel_rfl) rfl ?_
    refine ask_intro ⟨by omega, by show (10 : Int) < m.csr.length; omega, rfl⟩ ?_
    refine bsplit_of_false (show (m.csr.getD 10 0 == 0) = false from beq_eq_false_iff_ne.2 h) ?_
    refine .inl ⟨_, _, rfl, cw, rfl, ?_⟩
    refine bsplit_of_true (show (m.csr.getD 10 0 == 8) = true from beq_iff_eq.2 h8) ?_
    repeat' (first | refine bsplit_true ?_ | refine bsplit_false ?_)
    exact ⟨⟨⟨rfl, rfl⟩, rfl, trivial⟩, rfl⟩
  rw [beq_eq_false_iff_ne.2 h8, Bool.or_false] at hv
  generalize hb : (decide (P.to < 0) || (andI P.kinds 1 == 0)) = b at *
  cases b with
  | true =>
    subst hv
    refine fn_of lv97 Try.func97 rfl rfl (by kernel_rfl) rfl ?_
    refine ask_intro ⟨by omega, by show (10 : Int) < m.csr.length; omega, rfl⟩ ?_
    refine bsplit_of_false (show (m.csr.getD 10 0 == 0) = false from beq_eq_false_iff_ne.2 h) ?_
    refine .inl ⟨_, _, rfl, cw, rfl, ?_⟩
    refine bsplit_of_false (show (m.csr.getD 10 0 == 8) = false from beq_eq_false_iff_ne.2 h8) ?_
    repeat' (first | refine bsplit_true ?_ | refine bsplit_false ?_)
    exact ⟨⟨⟨rfl, rfl⟩, rfl, trivial⟩, rfl⟩
  | false =>
    subst hv
    have hP0 : 0 ≤ P.to := by
      have := of_decide_eq_false (Bool.or_eq_false_iff.1 hb).1
      omega
    have hsl : DLe (.l (IntKind.i64.wrap (P.to * 8 + 8) - P.to * 8).toNat (fun i => intsF mem ((P.to * 8).toNat + i))) (ints (pageW mem P.to)) := by
      have := pageW_D mem P.to hP0 hp.2.2
      rw [wrap_i64 _ (by omega) (by omega), show P.to * 8 + 8 = (P.to + 1) * 8 by omega]
      exact this
    refine fn_of lv97 Try.func97 rfl rfl (by kernel_rfl) rfl ?_
    refine ask_intro ⟨by omega, by show (10 : Int) < m.csr.length; omega, rfl⟩ ?_
    refine bsplit_of_false (show (m.csr.getD 10 0 == 0) = false from beq_eq_false_iff_ne.2 h) ?_
    refine .inl ⟨_, _, rfl, cw, rfl, ?_⟩
    refine bsplit_of_false (show (m.csr.getD 10 0 == 8) = false from beq_eq_false_iff_ne.2 h8) ?_
    repeat' (first | refine bsplit_true ?_ | refine bsplit_false ?_)
    refine bsplit_of_false (decide_eq_false (show ¬ P.to * 8 < 0 by omega)) ?_
    have hw8 : IntKind.i64.wrap (P.to * 8 + 8) = P.to * 8 + 8 := wrap_i64 _ (by omega) (by omega)
    refine ask_intro ⟨by show 0 ≤ P.to * 8; omega, by show P.to * 8 ≤ IntKind.i64.wrap (P.to * 8 + 8); omega, by show IntKind.i64.wrap (P.to * 8 + 8) ≤ (mem.length : Int); omega, .inr (fun i hi => rfl)⟩ ?_
    refine .inl ⟨_, _, rfl, (cpf P.to hP0 hp.2.2).weak ⟨LVLe.d hsl, trivial⟩, rfl, ?_⟩
    exact ⟨⟨⟨rfl, rfl, rfl, fun j hj => ⟨rfl, rfl⟩⟩, rfl, trivial⟩, rfl⟩
def spaceOf (m : HartM) (l : List PageM) (mem : List Int) : Int × List PageM := if stepF m l mem = 0 then spaceM m l mem else (stepF m l mem, [])
theorem spaceM_1 (m : HartM) (l : List PageM) (mem : List Int) : spaceM m l mem = (0, (spaceM m l mem).2) ∨ spaceM m l mem = (7, []) := by
  unfold spaceM
  split
  · exact .inl rfl
  · generalize (decide ((l.getD (m.csr.getD 10 0 - 1).toNat ⟨0, 0⟩).to < 0) || (andI (l.getD (m.csr.getD 10 0 - 1).toNat ⟨0, 0⟩).kinds 1 == 0) || (m.csr.getD 10 0 == 8)) = b
    cases b
    · exact .inl rfl
    · exact .inr rfl
theorem spaceM_len {m : HartM} {l : List PageM} {mem : List Int} (ok : StepOK m l mem) : (spaceM m l mem).2.length ≤ 8 := by
  unfold spaceM
  split
  · show idPages.length ≤ 8
    decide
  · generalize (decide ((l.getD (m.csr.getD 10 0 - 1).toNat ⟨0, 0⟩).to < 0) || (andI (l.getD (m.csr.getD 10 0 - 1).toNat ⟨0, 0⟩).kinds 1 == 0) || (m.csr.getD 10 0 == 8)) = b
    cases b
    · show ((pageW mem _).map entryP).length ≤ 8
      rw [List.length_map]
      unfold pageW
      rw [List.length_take]
      omega
    · simp
theorem spaceOf_few (m : HartM) (l : List PageM) (mem : List Int) : (spaceOf m l mem).2.length ≤ 8 := by
  unfold spaceOf
  split
  · rename_i h; exact spaceM_len (stepF_ok h)
  · simp
theorem c_impl_SpaceOf (m : HartM) (hs : m.small) (l : List PageM) (hl : l.length ≤ 1048576) (mem : List Int) (hm : mem.length ≤ 1048576) : FnOK Try.prog 47 [hartLV m, .d (pages l), .d (ints mem)] (.r (pgsR (spaceOf m l mem))) := by
  have ca := c_impl_stepFault m hs l hl mem hm
  have cs := fun h => c_impl_Hart_space m l mem (stepF_ok h)
  generalize hv : spaceOf m l mem = v
  unfold spaceOf at hv
  refine fn_of lv47 Try.func47 rfl rfl (by kernel_rfl) rfl ?_
  refine .inl ⟨_, _, rfl, ca, rfl, ?_⟩
  refine bsplit_intro (fun h => ?_) (fun h => ?_)
  · rw [if_neg (by simpa using h)] at hv
    subst hv
    exact ⟨⟨rfl, ⟨rfl, rfl⟩, trivial⟩, rfl⟩
  have h : stepF m l mem = 0 := by simpa using h
  rw [if_pos h] at hv
  subst hv
  refine .inl ⟨_, _, rfl, cs h, rfl, ?_⟩
  exact ⟨⟨rfl, ⟨rfl, rfl, rfl, fun j hj => ⟨rfl, rfl⟩⟩, trivial⟩, rfl⟩
theorem c_spec_SpaceOf (m : HartM) (hs : m.small) (l : List PageM) (hl : l.length ≤ 1048576) (mem : List Int) (hm : mem.length ≤ 1048576) : FnOK Try.prog 44 [hartLV m, .d (pages l), .d (ints mem)] (.r (pgsR (spaceOf m l mem))) := by
  have ca := c_spec_l10Asked m hs l hl mem hm
  have cs := fun h => c_spec_l10Space m l mem (stepF_ok h)
  have h1 := spaceM_1 m l mem
  generalize hv : spaceOf m l mem = v
  unfold spaceOf at hv
  generalize spaceM m l mem = q at *
  refine fn_of lv44 Try.func44 rfl rfl (by kernel_rfl) rfl ?_
  refine .inl ⟨_, _, rfl, ca, rfl, ?_⟩
  refine bsplit_intro (fun h => ?_) (fun h => ?_)
  · rw [if_neg (by simpa using h)] at hv
    subst hv
    exact ⟨⟨rfl, ⟨rfl, rfl⟩, trivial⟩, rfl⟩
  have h : stepF m l mem = 0 := by simpa using h
  rw [if_pos h] at hv
  subst hv
  refine .inl ⟨_, _, rfl, cs h, rfl, ?_⟩
  refine bsplit_intro (fun h2 => ?_) (fun h2 => ?_)
  · have h2 : (!(q.1 == 0)) = true := h2
    have h1 : q = (7, []) := by
      rcases h1 with h1 | h1
      · rw [h1] at h2; simp at h2
      · exact h1
    subst h1
    exact ⟨⟨rfl, ⟨rfl, rfl⟩, trivial⟩, rfl⟩
  have h2 : (!(q.1 == 0)) = false := h2
  have h3 : q.1 = 0 := by simpa using h2
  exact ⟨⟨congrArg (Value.int .i64) h3.symm, ⟨rfl, rfl, rfl, fun j hj => ⟨rfl, rfl⟩⟩, trivial⟩, rfl⟩
end Go.Proofs.Ytfcekiehcchebaa.L

/- What the functions compute that tell where a place of a guest leads: contracts. -/
set_option linter.unusedVariables false
set_option linter.unusedSimpArgs false
set_option maxRecDepth 100000
namespace Go.Proofs.Ytfcekiehcchebaa.L
open Go.RowKit
theorem walkP_b {l : List PageM} {top : Int} (h : PgsOK l top) (ht : top ≤ 24) (at_ kind : Int) : walkP l at_ kind = -1 ∨ (0 ≤ walkP l at_ kind ∧ walkP l at_ kind < top * 8 ∧ ∃ p ∈ l, walkP l at_ kind < (p.to + 1) * 8) := by
  unfold walkP
  cases hin : inR at_ 0 63 with
  | false => exact .inl rfl
  | true =>
    cases hb : decide ((pageAt l at_).to < 0) || (andI (pageAt l at_).kinds kind == 0) with
    | true => exact .inl rfl
    | false =>
      have h0 := of_decide_eq_false (Bool.or_eq_false_iff.1 hb).1
      obtain ⟨w1, w2, w3⟩ := walk_get h ht hin h0
      have hd := div8 (inR_iff.1 hin).1 (inR_iff.1 hin).2
      have hm : Int.tmod at_ 8 < 8 := by rw [Int.tmod_eq_emod_of_nonneg (inR_iff.1 hin).1]; omega
      refine .inr ?_
      simp only [Bool.not_true, cond_false]
      rw [w1]
      refine ⟨w2, w3, pageAt l at_, ?_, by omega⟩
      unfold pageAt
      rw [hd.1, getD_at _ (by rw [h.len]; omega)]
      exact List.getElem_mem _
theorem idPages_ok : PgsOK idPages 8 := ⟨rfl, fun p hp => by
  simp only [idPages, List.mem_map, List.mem_range] at hp
  obtain ⟨i, hi, rfl⟩ := hp
  simp only
  omega⟩
theorem entryP_ok {w : Int} (h : 0 ≤ w) (h9 : w ≤ 4294967295) : -1 ≤ (entryP w).to ∧ (entryP w).to < 8 ∧ 0 ≤ (entryP w).kinds ∧ (entryP w).kinds ≤ 7 := by
  have h1 : 0 ≤ Int.tmod w 8 ∧ Int.tmod w 8 < 8 := by rw [Int.tmod_eq_emod_of_nonneg h]; omega
  have h2 : 0 ≤ Int.tdiv w 8 := Int.tdiv_nonneg h (by omega)
  have h2' : Int.tdiv w 8 ≤ w := Int.tdiv_le_self 8 h
  unfold entryP
  cases hb : (Int.tmod w 8 == 0) || decide (IntKind.i64.wrap (Int.tdiv w 8) ≥ 8) with
  | true => exact ⟨by simp, by simp, by simp, by simp⟩
  | false =>
    have h3 := of_decide_eq_false (Bool.or_eq_false_iff.1 hb).2
    simp only [cond_false]
    refine ⟨?_, by omega, by omega, by omega⟩
    rw [wrap_i64 _ (by omega) (by omega)]
    omega
theorem spaceM_ok {m : HartM} {l : List PageM} {mem : List Int} (ok : StepOK m l mem) (h : (spaceM m l mem).1 = 0) : PgsOK (spaceM m l mem).2 8 := by
  have ht := ok.table
  unfold spaceM at h ⊢
  split
  · exact idPages_ok
  · rename_i h0
    rw [if_neg h0] at h
    have hp := ok.page (i := (m.csr.getD 10 0 - 1).toNat) (by omega)
    generalize l.getD (m.csr.getD 10 0 - 1).toNat ⟨0, 0⟩ = P at *
    cases hb : (decide (P.to < 0) || (andI P.kinds 1 == 0)) || (m.csr.getD 10 0 == 8) with
    | true => rw [hb] at h; simp at h
    | false =>
      have hP : ¬ P.to < 0 := of_decide_eq_false (Bool.or_eq_false_iff.1 (Bool.or_eq_false_iff.1 hb).1).1
      simp only [cond_false]
      refine ⟨by rw [List.length_map]; exact pageW_len mem P.to (by omega) (by omega), fun p hp => ?_⟩
      obtain ⟨w, hw, rfl⟩ := List.mem_map.1 hp
      have hw2 := isW_iff.1 (ok.ram.word w (List.mem_of_mem_drop (List.mem_of_mem_take hw)))
      exact entryP_ok hw2.1 hw2.2
def placeM (m : HartM) (l : List PageM) (mem : List Int) (at_ kind : Int) : Int × Int :=
  if (spaceM m l mem).1 = 0 then
    (if walkP (spaceM m l mem).2 at_ kind < 0 then (kindC kind, 0) else
     if Int.tdiv (walkP (spaceM m l mem).2 at_ kind) 8 = 7 then (if kind = 4 then (9, 0) else (0, 1000 + Int.tmod (walkP (spaceM m l mem).2 at_ kind) 8)) else
     if walkP l (walkP (spaceM m l mem).2 at_ kind) kind < 0 then (kindC kind, 0) else (0, walkP l (walkP (spaceM m l mem).2 at_ kind) kind))
  else ((spaceM m l mem).1, 0)
theorem kindC_ne {k : Int} (h : kindOk k = true) : kindC k ≠ 0 := by
  have := kindC_ok k
  rw [h] at this
  intro h0
  rw [h0] at this
  simp at this
theorem kindOk_or {k : Int} (h : kindOk k = true) : k = 1 ∨ k = 2 ∨ k = 4 := by
  simpa [kindOk] using h
theorem c_impl_Hart_place (m : HartM) (l : List PageM) (mem : List Int) (ok : StepOK m l mem) (at_ kind : Int) (hk : kindOk kind = true) : FnOK Try.prog 106 [.dptr (hartD m), .d (pages l), .d (ints mem), di at_, di kind] (.r (irR (placeM m l mem at_ kind))) := by
  have cs := c_impl_Hart_space m l mem ok
  have hso := fun h => spaceM_ok ok h
  have hkn := kindC_ne hk
  generalize hv : placeM m l mem at_ kind = v
  unfold placeM at hv
  generalize spaceM m l mem = q at *
  by_cases h0 : q.1 = 0
  rotate_left
  · rw [if_neg h0] at hv
    subst hv
    refine fn_of lv106 Try.func106 rfl rfl (by kernel_rfl) rfl ?_
    refine .inl ⟨_, _, rfl, cs, rfl, ?_⟩
    refine bsplit_of_true (bne_iff_ne.2 h0) ?_
    exact ⟨⟨rfl, rfl, trivial⟩, rfl⟩
  rw [if_pos h0] at hv
  have hs8 := hso h0
  have cw := c_impl_walk q.2 8 hs8 (by omega) at_ kind
  have hb := walkP_b hs8 (by omega) at_ kind
  unfold walkI at cw
  generalize walkP q.2 at_ kind = g at *
  by_cases hg : g < 0
  · rw [if_pos hg] at hv cw
    subst hv
    refine fn_of lv106 Try.func106 rfl rfl (by kernel_rfl) rfl ?_
    refine .inl ⟨_, _, rfl, cs, rfl, ?_⟩
    refine bsplit_of_false (by rw [h0]; rfl) ?_
    refine .inl ⟨_, _, rfl, cw, rfl, ?_⟩
    refine bsplit_of_true (bne_iff_ne.2 hkn) ?_
    exact ⟨⟨rfl, rfl, trivial⟩, rfl⟩
  rw [if_neg hg] at hv cw
  have hgd : Int.tdiv g 8 = g / 8 := Int.tdiv_eq_ediv_of_nonneg (by omega)
  have hgm : Int.tmod g 8 = g % 8 := Int.tmod_eq_emod_of_nonneg (by omega)
  have hgw : IntKind.i64.wrap (Int.tdiv g 8) = Int.tdiv g 8 := by rw [hgd]; exact wrap_i64 _ (by omega) (by omega)
  have hgw2 : IntKind.i64.wrap (1000 + Int.tmod g 8) = 1000 + Int.tmod g 8 := by rw [hgm]; exact wrap_i64 _ (by omega) (by omega)
  by_cases h7 : Int.tdiv g 8 = 7
  · rw [if_pos h7] at hv
    by_cases h4 : kind = 4
    · rw [if_pos h4] at hv
      subst hv
      refine fn_of lv106 Try.func106 rfl rfl (by kernel_rfl) rfl ?_
      refine .inl ⟨_, _, rfl, cs, rfl, ?_⟩
      refine bsplit_of_false (by rw [h0]; rfl) ?_
      refine .inl ⟨_, _, rfl, cw, rfl, ?_⟩
      repeat' (first | refine bsplit_true ?_ | refine bsplit_false ?_)
      refine ask_intro (by decide) ?_
      refine bsplit_of_false (show (IntKind.i64.wrap (Int.tdiv g 8) != 7) = false by rw [hgw, h7]; rfl) ?_
      refine bsplit_of_true (beq_iff_eq.2 h4) ?_
      exact ⟨⟨rfl, rfl, trivial⟩, rfl⟩
    · rw [if_neg h4] at hv
      subst hv
      refine fn_of lv106 Try.func106 rfl rfl (by kernel_rfl) rfl ?_
      refine .inl ⟨_, _, rfl, cs, rfl, ?_⟩
      refine bsplit_of_false (by rw [h0]; rfl) ?_
      refine .inl ⟨_, _, rfl, cw, rfl, ?_⟩
      repeat' (first | refine bsplit_true ?_ | refine bsplit_false ?_)
      refine ask_intro (by decide) ?_
      refine bsplit_of_false (show (IntKind.i64.wrap (Int.tdiv g 8) != 7) = false by rw [hgw, h7]; rfl) ?_
      refine bsplit_of_false (beq_eq_false_iff_ne.2 h4) ?_
      refine ask_intro (by decide) ?_
      exact ⟨⟨rfl, congrArg (Value.int .i64) hgw2, trivial⟩, rfl⟩
  rw [if_neg h7] at hv
  have cw2 := c_impl_walk l 24 ok.pgs (by omega) g kind
  unfold walkI at cw2
  rw [hv] at cw2
  refine fn_of lv106 Try.func106 rfl rfl (by kernel_rfl) rfl ?_
  refine .inl ⟨_, _, rfl, cs, rfl, ?_⟩
  refine bsplit_of_false (by rw [h0]; rfl) ?_
  refine .inl ⟨_, _, rfl, cw, rfl, ?_⟩
  repeat' (first | refine bsplit_true ?_ | refine bsplit_false ?_)
  refine ask_intro (by decide) ?_
  refine bsplit_of_true (show (IntKind.i64.wrap (Int.tdiv g 8) != 7) = true by rw [hgw]; exact bne_iff_ne.2 h7) ?_
  refine .inl ⟨_, _, rfl, cw2, rfl, ?_⟩
  exact ⟨⟨rfl, rfl, trivial⟩, rfl⟩
theorem c_spec_l10Place (m : HartM) (l : List PageM) (mem : List Int) (ok : StepOK m l mem) (at_ kind : Int) (hk : kindOk kind = true) : FnOK Try.prog 104 [.dptr (busD m l mem), di at_, di kind] (.tup [.one (.v (.int .i64 (placeM m l mem at_ kind).2)), .one (.v (.int .i64 (placeM m l mem at_ kind).1))]) := by
  have cs := c_spec_l10Space m l mem ok
  have hs1 := spaceM_1 m l mem
  have hso := fun h => spaceM_ok ok h
  have hkn := kindOk_or hk
  generalize hv : placeM m l mem at_ kind = v
  unfold placeM at hv
  generalize spaceM m l mem = q at *
  by_cases h0 : q.1 = 0
  rotate_left
  · rw [if_neg h0] at hv
    have hq : q = (7, []) := by
      rcases hs1 with h | h
      · rw [h] at h0; simp at h0
      · exact h
    subst hq
    subst hv
    refine fn_of lv104 Try.func104 rfl rfl (by kernel_rfl) rfl ?_
    refine .inl ⟨_, _, rfl, cs, rfl, ?_⟩
    repeat' (first | refine bsplit_true ?_ | refine bsplit_false ?_)
    exact ⟨⟨rfl, rfl, trivial⟩, rfl⟩
  rw [if_pos h0] at hv
  have hs8 := hso h0
  have hb0 : (!(q.1 == 0)) = false := by rw [h0]; rfl
  have cw := c_spec_l4Walk q.2 hs8.len at_ kind
  have hb := walkP_b hs8 (by omega) at_ kind
  have cc := c_spec_l4Code kind hkn
  generalize walkP q.2 at_ kind = g at *
  by_cases hg : g < 0
  · rw [if_pos hg] at hv
    subst hv
    refine fn_of lv104 Try.func104 rfl rfl (by kernel_rfl) rfl ?_
    refine .inl ⟨_, _, rfl, cs, rfl, ?_⟩
    refine bsplit_of_false hb0 ?_
    refine .inl ⟨_, _, rfl, cw, rfl, ?_⟩
    refine bsplit_of_true (decide_eq_true hg) ?_
    refine .inl ⟨_, _, rfl, cc, rfl, ?_⟩
    exact ⟨⟨rfl, rfl, trivial⟩, rfl⟩
  rw [if_neg hg] at hv
  have hgd : Int.tdiv g 8 = g / 8 := Int.tdiv_eq_ediv_of_nonneg (by omega)
  have hgm : Int.tmod g 8 = g % 8 := Int.tmod_eq_emod_of_nonneg (by omega)
  have hgw : IntKind.i64.wrap (Int.tdiv g 8) = Int.tdiv g 8 := by rw [hgd]; exact wrap_i64 _ (by omega) (by omega)
  have hgw2 : IntKind.i64.wrap (1000 + Int.tmod g 8) = 1000 + Int.tmod g 8 := by rw [hgm]; exact wrap_i64 _ (by omega) (by omega)
  by_cases h7 : Int.tdiv g 8 = 7
  · rw [if_pos h7] at hv
    by_cases h4 : kind = 4
    · rw [if_pos h4] at hv
      subst hv
      refine fn_of lv104 Try.func104 rfl rfl (by kernel_rfl) rfl ?_
      refine .inl ⟨_, _, rfl, cs, rfl, ?_⟩
      refine bsplit_of_false hb0 ?_
      refine .inl ⟨_, _, rfl, cw, rfl, ?_⟩
      refine bsplit_of_false (decide_eq_false hg) ?_
      refine ask_intro (by decide) ?_
      refine bsplit_of_true (show (IntKind.i64.wrap (Int.tdiv g 8) == 7) = true by rw [hgw, h7]; rfl) ?_
      refine bsplit_of_true (beq_iff_eq.2 h4) ?_
      exact ⟨⟨rfl, rfl, trivial⟩, rfl⟩
    · rw [if_neg h4] at hv
      subst hv
      refine fn_of lv104 Try.func104 rfl rfl (by kernel_rfl) rfl ?_
      refine .inl ⟨_, _, rfl, cs, rfl, ?_⟩
      refine bsplit_of_false hb0 ?_
      refine .inl ⟨_, _, rfl, cw, rfl, ?_⟩
      refine bsplit_of_false (decide_eq_false hg) ?_
      refine ask_intro (by decide) ?_
      refine bsplit_of_true (show (IntKind.i64.wrap (Int.tdiv g 8) == 7) = true by rw [hgw, h7]; rfl) ?_
      refine bsplit_of_false (beq_eq_false_iff_ne.2 h4) ?_
      refine ask_intro (by decide) ?_
      exact ⟨⟨congrArg (Value.int .i64) hgw2, rfl, trivial⟩, rfl⟩
  rw [if_neg h7] at hv
  have cw2 := c_spec_l4Walk l ok.pgs.len g kind
  generalize walkP l g kind = r at *
  by_cases hr : r < 0
  · rw [if_pos hr] at hv
    subst hv
    refine fn_of lv104 Try.func104 rfl rfl (by kernel_rfl) rfl ?_
    refine .inl ⟨_, _, rfl, cs, rfl, ?_⟩
    refine bsplit_of_false hb0 ?_
    refine .inl ⟨_, _, rfl, cw, rfl, ?_⟩
    refine bsplit_of_false (decide_eq_false hg) ?_
    refine ask_intro (by decide) ?_
    refine bsplit_of_false (show (IntKind.i64.wrap (Int.tdiv g 8) == 7) = false by rw [hgw]; exact beq_eq_false_iff_ne.2 h7) ?_
    refine .inl ⟨_, _, rfl, cw2, rfl, ?_⟩
    refine bsplit_of_true (decide_eq_true hr) ?_
    refine .inl ⟨_, _, rfl, cc, rfl, ?_⟩
    exact ⟨⟨rfl, rfl, trivial⟩, rfl⟩
  · rw [if_neg hr] at hv
    subst hv
    refine fn_of lv104 Try.func104 rfl rfl (by kernel_rfl) rfl ?_
    refine .inl ⟨_, _, rfl, cs, rfl, ?_⟩
    refine bsplit_of_false hb0 ?_
    refine .inl ⟨_, _, rfl, cw, rfl, ?_⟩
    refine bsplit_of_false (decide_eq_false hg) ?_
    refine ask_intro (by decide) ?_
    refine bsplit_of_false (show (IntKind.i64.wrap (Int.tdiv g 8) == 7) = false by rw [hgw]; exact beq_eq_false_iff_ne.2 h7) ?_
    refine .inl ⟨_, _, rfl, cw2, rfl, ?_⟩
    refine bsplit_of_false (decide_eq_false hr) ?_
    exact ⟨⟨rfl, rfl, trivial⟩, rfl⟩
def placeOf (m : HartM) (l : List PageM) (mem : List Int) (at_ kind : Int) : Int × Int := if stepF m l mem = 0 then (bif !kindOk kind then (3, 0) else placeM m l mem at_ kind) else (stepF m l mem, 0)
theorem c_impl_PlaceOf (m : HartM) (hs : m.small) (l : List PageM) (hl : l.length ≤ 1048576) (mem : List Int) (hm : mem.length ≤ 1048576) (at_ kind : Int) : FnOK Try.prog 56 [hartLV m, .d (pages l), .d (ints mem), di at_, di kind] (.r (irR (placeOf m l mem at_ kind))) := by
  have ca := c_impl_stepFault m hs l hl mem hm
  have cp := fun h => c_impl_Hart_place m l mem (stepF_ok h) at_ kind
  have hkc := kindC_ok kind
  generalize hv : placeOf m l mem at_ kind = v
  unfold placeOf at hv
  by_cases h0 : stepF m l mem = 0
  rotate_left
  · rw [if_neg h0] at hv
    subst hv
    refine fn_of lv56 Try.func56 rfl rfl (by kernel_rfl) rfl ?_
    refine .inl ⟨_, _, rfl, ca, rfl, ?_⟩
    refine bsplit_of_false (beq_eq_false_iff_ne.2 h0) ?_
    repeat' (first | refine bsplit_true ?_ | refine bsplit_false ?_)
    refine bsplit_of_true (bne_iff_ne.2 h0) ?_
    exact ⟨⟨rfl, rfl, trivial⟩, rfl⟩
  rw [if_pos h0] at hv
  have cp := cp h0
  cases hk : kindOk kind with
  | false =>
    rw [hk] at hv hkc
    subst hv
    refine fn_of lv56 Try.func56 rfl rfl (by kernel_rfl) rfl ?_
    refine .inl ⟨_, _, rfl, ca, rfl, ?_⟩
    refine bsplit_of_true (beq_iff_eq.2 h0) ?_
    repeat' (first | refine bsplit_true ?_ | refine bsplit_false ?_)
    refine .inl ⟨_, _, rfl, c_impl_kindCode kind, rfl, ?_⟩
    repeat' (first | refine bsplit_true ?_ | refine bsplit_false ?_)
    refine bsplit_of_true hkc ?_
    repeat' (first | refine bsplit_true ?_ | refine bsplit_false ?_)
    exact ⟨⟨rfl, rfl, trivial⟩, rfl⟩
  | true =>
    rw [hk] at hv hkc
    subst hv
    have cp := cp hk
    refine fn_of lv56 Try.func56 rfl rfl (by kernel_rfl) rfl ?_
    refine .inl ⟨_, _, rfl, ca, rfl, ?_⟩
    refine bsplit_of_true (beq_iff_eq.2 h0) ?_
    repeat' (first | refine bsplit_true ?_ | refine bsplit_false ?_)
    refine .inl ⟨_, _, rfl, c_impl_kindCode kind, rfl, ?_⟩
    repeat' (first | refine bsplit_true ?_ | refine bsplit_false ?_)
    refine bsplit_of_false hkc ?_
    refine bsplit_of_false (by rw [h0]; rfl) ?_
    refine .inl ⟨_, _, rfl, cp, rfl, ?_⟩
    exact ⟨⟨rfl, rfl, trivial⟩, rfl⟩
theorem c_spec_PlaceOf (m : HartM) (hs : m.small) (l : List PageM) (hl : l.length ≤ 1048576) (mem : List Int) (hm : mem.length ≤ 1048576) (at_ kind : Int) : FnOK Try.prog 55 [hartLV m, .d (pages l), .d (ints mem), di at_, di kind] (.r (irR (placeOf m l mem at_ kind))) := by
  have ca := c_spec_l10Asked m hs l hl mem hm
  have cp := fun h => c_spec_l10Place m l mem (stepF_ok h) at_ kind
  have hp1 : ∀ ok : StepOK m l mem, (placeM m l mem at_ kind).1 ≠ 0 → placeM m l mem at_ kind = ((placeM m l mem at_ kind).1, 0) := fun ok => by
    unfold placeM
    (repeat' split) <;> (try intro h; first | rfl | exact absurd rfl h)
  generalize hv : placeOf m l mem at_ kind = v
  unfold placeOf at hv
  by_cases h0 : stepF m l mem = 0
  rotate_left
  · rw [if_neg h0] at hv
    subst hv
    refine fn_of lv55 Try.func55 rfl rfl (by kernel_rfl) rfl ?_
    refine .inl ⟨_, _, rfl, ca, rfl, ?_⟩
    refine bsplit_of_true (bne_iff_ne.2 h0) ?_
    exact ⟨⟨rfl, rfl, trivial⟩, rfl⟩
  rw [if_pos h0] at hv
  have cp := cp h0
  have hp1 := hp1 (stepF_ok h0)
  cases hk : kindOk kind with
  | false =>
    rw [hk] at hv
    subst hv
    refine fn_of lv55 Try.func55 rfl rfl (by kernel_rfl) rfl ?_
    refine .inl ⟨_, _, rfl, ca, rfl, ?_⟩
    refine bsplit_of_false (by rw [h0]; rfl) ?_
    refine .inl ⟨_, _, rfl, c_spec_l4Kind kind, rfl, ?_⟩
    refine bsplit_of_true (by rw [hk]; rfl) ?_
    exact ⟨⟨rfl, rfl, trivial⟩, rfl⟩
  | true =>
    rw [hk] at hv
    have cp := cp hk
    simp only [Bool.not_true, cond_false] at hv
    rw [hv] at cp hp1
    by_cases hc : v.1 = 0
    · refine fn_of lv55 Try.func55 rfl rfl (by kernel_rfl) rfl ?_
      refine .inl ⟨_, _, rfl, ca, rfl, ?_⟩
      refine bsplit_of_false (by rw [h0]; rfl) ?_
      refine .inl ⟨_, _, rfl, c_spec_l4Kind kind, rfl, ?_⟩
      refine bsplit_of_false (by rw [hk]; rfl) ?_
      refine .inl ⟨_, _, rfl, cp, rfl, ?_⟩
      refine bsplit_of_false (by rw [hc]; rfl) ?_
      exact ⟨⟨congrArg (Value.int .i64) hc.symm, rfl, trivial⟩, rfl⟩
    · have hp1 := hp1 hc
      refine fn_of lv55 Try.func55 rfl rfl (by kernel_rfl) rfl ?_
      refine .inl ⟨_, _, rfl, ca, rfl, ?_⟩
      refine bsplit_of_false (by rw [h0]; rfl) ?_
      refine .inl ⟨_, _, rfl, c_spec_l4Kind kind, rfl, ?_⟩
      refine bsplit_of_false (by rw [hk]; rfl) ?_
      refine .inl ⟨_, _, rfl, cp, rfl, ?_⟩
      refine bsplit_of_true (bne_iff_ne.2 hc) ?_
      exact ⟨⟨rfl, congrArg (Value.int .i64) (congrArg Prod.snd hp1).symm, trivial⟩, rfl⟩
end Go.Proofs.Ytfcekiehcchebaa.L

/- What the functions compute that read an instruction out of a word: contracts. -/
set_option linter.unusedVariables false
set_option linter.unusedSimpArgs false
set_option maxRecDepth 100000
namespace Go.Proofs.Ytfcekiehcchebaa.L
open Go.RowKit
structure InsM where
  op : Int
  d : Int
  a : Int
  imm : Int
  deriving DecidableEq
abbrev insLV (x : InsM) : LV := .agg [di x.op, di x.d, di x.a, di x.imm]
abbrev insV (x : InsM) : RV1 := .agg [.v (.int .i64 x.op), .v (.int .i64 x.d), .v (.int .i64 x.a), .v (.int .i64 x.imm)]
def insFault (x : InsM) : Int :=
  if ¬ ((1 ≤ x.op ∧ x.op ≤ 26) ∧ (0 ≤ x.d ∧ x.d ≤ 15) ∧ (0 ≤ x.a ∧ x.a ≤ 15) ∧ (0 ≤ x.imm ∧ x.imm ≤ 65535)) then 3 else
  if (x.op = 22 ∨ 23 ≤ x.op) ∧ x.d ≠ 0 ∨ (x.op = 13 ∨ x.op = 19 ∨ x.op = 21 ∨ 23 ≤ x.op) ∧ x.a ≠ 0 ∨ 23 ≤ x.op ∧ x.imm ≠ 0 ∨ x.op ≤ 11 ∧ x.imm > 15 ∨ (x.op = 21 ∨ x.op = 22) ∧ x.imm > 10 then 1 else 0
theorem c_impl_InsFault (x : InsM) : FnOK Try.prog 143 [insLV x] (ri (insFault x)) := by
  have w1 := c_impl_within x.op 1 26
  have w2 := c_impl_within x.d 0 15
  have w3 := c_impl_within x.a 0 15
  have w4 := c_impl_within x.imm 0 65535
  refine fn_of lv143 Try.func143 rfl rfl (by kernel_rfl) rfl ?_
  repeat' (first | refine bsplit_true ?_ | refine bsplit_false ?_ | refine .inl ⟨_, _, rfl, w1, rfl, ?_⟩ | refine .inl ⟨_, _, rfl, w2, rfl, ?_⟩ | refine .inl ⟨_, _, rfl, w3, rfl, ?_⟩ | refine .inl ⟨_, _, rfl, w4, rfl, ?_⟩ | refine bsplit_intro (fun h => ?_) (fun h => ?_))
  all_goals refine ⟨⟨congrArg (Value.int .i64) ?_, trivial⟩, rfl⟩
  all_goals (simp only [Bool.not_eq_eq_eq_not, Bool.not_true, Bool.not_false, inR, Bool.and_eq_true, Bool.and_eq_false_iff, bne_iff_ne, bne_eq_false_iff_eq, decide_eq_true_eq, decide_eq_false_iff_not, beq_iff_eq, beq_eq_false_iff_ne, ne_eq] at *)
  all_goals (unfold insFault; repeat' split)
  all_goals (first | rfl | omega)
theorem c_spec_l2Bare (o : Int) (h1 : 1 ≤ o) (h26 : o ≤ 26) : FnOK Try.prog 160 [di o] (.tup [.one (.v (.bool (decide (o = 22 ∨ 23 ≤ o)))), .one (.v (.bool (decide (o = 13 ∨ o = 19 ∨ o = 21 ∨ 23 ≤ o)))), .one (.v (.bool (decide (23 ≤ o))))]) := by
  refine fn_of lv160 Try.func160 rfl rfl (by kernel_rfl) rfl ?_
  repeat' (first | refine bsplit_true ?_ | refine bsplit_false ?_ | refine bsplit_intro (fun h => ?_) (fun h => ?_))
  all_goals (simp only [beq_iff_eq, beq_eq_false_iff_ne, ne_eq] at *)
  all_goals refine ⟨⟨congrArg Value.bool ?_, congrArg Value.bool ?_, congrArg Value.bool ?_, trivial⟩, rfl⟩
  all_goals (symm; first | exact decide_eq_true (by omega) | exact decide_eq_false (by omega))
set_option maxHeartbeats 8000000 in
theorem c_spec_InsFault (x : InsM) : FnOK Try.prog 155 [insLV x] (ri (insFault x)) := by
  have w1 := c_spec_l1In x.op 1 26
  have w2 := c_spec_l1In x.d 0 15
  have w3 := c_spec_l1In x.a 0 15
  have w4 := c_spec_l1In x.imm 0 65535
  by_cases hop : 1 ≤ x.op ∧ x.op ≤ 26
  rotate_left
  · refine fn_of lv155 Try.func155 rfl rfl (by kernel_rfl) rfl ?_
    repeat' (first | refine bsplit_true ?_ | refine bsplit_false ?_ | refine .inl ⟨_, _, rfl, w1, rfl, ?_⟩ | refine .inl ⟨_, _, rfl, w2, rfl, ?_⟩ | refine .inl ⟨_, _, rfl, w3, rfl, ?_⟩ | refine .inl ⟨_, _, rfl, w4, rfl, ?_⟩ | refine bsplit_of_true (show (!(inR x.op 1 26)) = true by simp [inR]; omega) ?_)
    all_goals refine ⟨⟨congrArg (Value.int .i64) ?_, trivial⟩, rfl⟩
    all_goals (unfold insFault; repeat' split)
    all_goals (first | rfl | omega)
  have w5 := c_spec_l2Bare x.op hop.1 hop.2
  have e1 : ∀ b, decide (x.op = 22 ∨ 23 ≤ x.op) = b → (b = true ↔ (x.op = 22 ∨ 23 ≤ x.op)) := fun b h => by rw [← h]; simp
  have e2 : ∀ b, decide (x.op = 13 ∨ x.op = 19 ∨ x.op = 21 ∨ 23 ≤ x.op) = b → (b = true ↔ (x.op = 13 ∨ x.op = 19 ∨ x.op = 21 ∨ 23 ≤ x.op)) := fun b h => by rw [← h]; simp
  have e3 : ∀ b, decide (23 ≤ x.op) = b → (b = true ↔ 23 ≤ x.op) := fun b h => by rw [← h]; simp
  generalize hb1 : decide (x.op = 22 ∨ 23 ≤ x.op) = b1 at w5
  generalize hb2 : decide (x.op = 13 ∨ x.op = 19 ∨ x.op = 21 ∨ 23 ≤ x.op) = b2 at w5
  generalize hb3 : decide (23 ≤ x.op) = b3 at w5
  replace e1 := e1 b1 hb1
  replace e2 := e2 b2 hb2
  replace e3 := e3 b3 hb3
  clear hb1 hb2 hb3
  refine fn_of lv155 Try.func155 rfl rfl (by kernel_rfl) rfl ?_
  repeat' (first | refine bsplit_true ?_ | refine bsplit_false ?_ | refine .inl ⟨_, _, rfl, w1, rfl, ?_⟩ | refine .inl ⟨_, _, rfl, w2, rfl, ?_⟩ | refine .inl ⟨_, _, rfl, w3, rfl, ?_⟩ | refine .inl ⟨_, _, rfl, w4, rfl, ?_⟩ | refine .inl ⟨_, _, rfl, w5, rfl, ?_⟩ | refine bsplit_intro (fun h => ?_) (fun h => ?_))
  all_goals refine ⟨⟨congrArg (Value.int .i64) ?_, trivial⟩, rfl⟩
  all_goals (simp only [Bool.not_eq_eq_eq_not, Bool.not_true, Bool.not_false, inR, Bool.and_eq_true, Bool.and_eq_false_iff, bne_iff_ne, bne_eq_false_iff_eq, decide_eq_true_eq, decide_eq_false_iff_not, beq_iff_eq, beq_eq_false_iff_ne, ne_eq] at *)
  all_goals (clear w1 w2 w3 w4 w5)
  all_goals (try subst b1; try subst b2; try subst b3)
  all_goals (try simp only [true_iff, false_iff, Bool.false_eq_true, reduceCtorEq] at *)
  all_goals (unfold insFault; repeat' split)
  all_goals (first | rfl | omega)
abbrev shrI (a : Int) (n : Nat) : Int := a.fdiv (2 ^ (min n 64))
def insOf (w : Int) : InsM := ⟨shrI w 24, andI (shrI w 20) 15, andI (shrI w 16) 15, andI w 65535⟩
def decIns (w : Int) : Int × InsM := if insFault (insOf w) = 0 then (0, insOf w) else (5, ⟨0, 0, 0, 0⟩)
abbrev insR (p : Int × InsM) : RV1 := .agg [.v (.int .i64 p.1), .v (.int .i64 p.2.op), .v (.int .i64 p.2.d), .v (.int .i64 p.2.a), .v (.int .i64 p.2.imm)]
abbrev insRLV (p : Int × InsM) : LV := .agg [di p.1, di p.2.op, di p.2.d, di p.2.a, di p.2.imm]
theorem c_impl_DecodeIns (w : Int) : FnOK Try.prog 111 [di w] (.r (insR (decIns w))) := by
  have cf := c_impl_InsFault (insOf w)
  generalize hv : decIns w = v
  unfold decIns at hv
  refine fn_of lv111 Try.func111 rfl rfl (by kernel_rfl) rfl ?_
  refine ask_intro (by decide) ?_
  refine ask_intro (by decide) ?_
  refine ask_intro (by decide) ?_
  refine .inl ⟨_, _, rfl, cf, rfl, ?_⟩
  refine bsplit_intro (fun h => ?_) (fun h => ?_)
  · rw [if_neg (by simpa using h)] at hv
    subst hv
    exact ⟨⟨rfl, rfl, rfl, rfl, rfl, trivial⟩, rfl⟩
  · rw [if_pos (by simpa using h)] at hv
    subst hv
    exact ⟨⟨rfl, rfl, rfl, rfl, rfl, trivial⟩, rfl⟩
theorem c_spec_l2Decode (w : Int) (hw : isW w = true) : FnOK Try.prog 142 [di w] (.tup [insV (insOf w), .one (.v (.bool (insFault (insOf w) == 0)))]) := by
  have cf := c_spec_InsFault (insOf w)
  refine fn_of lv142 Try.func142 rfl rfl (by kernel_rfl) rfl ?_
  refine .inl ⟨_, _, rfl, c_spec_l1In w 0 4294967295, rfl, ?_⟩
  refine bsplit_of_false (by rw [show inR w 0 4294967295 = true from hw]; rfl) ?_
  refine ask_intro (by decide) ?_
  refine ask_intro (by decide) ?_
  refine ask_intro (by decide) ?_
  refine .inl ⟨_, _, rfl, cf, rfl, ?_⟩
  refine chk_intro (by kernel_rfl) ?_
  exact ⟨⟨rfl, rfl, rfl, rfl, rfl, trivial⟩, rfl⟩
theorem c_spec_DecodeIns (w : Int) (hw : isW w = true) : FnOK Try.prog 110 [di w] (.r (insR (decIns w))) := by
  have cf := c_spec_l2Decode w hw
  generalize hv : decIns w = v
  unfold decIns at hv
  refine fn_of lv110 Try.func110 rfl rfl (by kernel_rfl) rfl ?_
  refine .inl ⟨_, _, rfl, cf, rfl, ?_⟩
  refine bsplit_intro (fun h => ?_) (fun h => ?_)
  · rw [if_neg (by simpa using h)] at hv
    subst hv
    exact ⟨⟨rfl, rfl, rfl, rfl, rfl, trivial⟩, rfl⟩
  · rw [if_pos (by simpa using h)] at hv
    subst hv
    exact ⟨⟨rfl, rfl, rfl, rfl, rfl, trivial⟩, rfl⟩
theorem placeM_run {m : HartM} {l : List PageM} {mem : List Int} (ok : StepOK m l mem) (at_ : Int) (h : (placeM m l mem at_ 4).1 = 0) : 0 ≤ (placeM m l mem at_ 4).2 ∧ (placeM m l mem at_ 4).2 < mem.length := by
  have hc : kindC 4 ≠ 0 := by decide
  unfold placeM at h ⊢
  split
  · rename_i h0
    rw [if_pos h0] at h
    split
    · rename_i h1; rw [if_pos h1] at h; exact absurd h hc
    · rename_i h1
      rw [if_neg h1] at h
      split
      · rename_i h2; rw [if_pos h2, if_pos rfl] at h; simp at h
      · rename_i h2
        rw [if_neg h2] at h
        split
        · rename_i h3; rw [if_pos h3] at h; exact absurd h hc
        · rename_i h3
          rcases walkP_b ok.pgs (by omega) (walkP (spaceM m l mem).2 at_ 4) 4 with hw | ⟨hw, _, p, hp, hw2⟩
          · omega
          · exact ⟨hw, by have := ok.top p hp; show walkP l _ 4 < (mem.length : Int); omega⟩
  · rename_i h0
    rw [if_neg h0] at h
    exact absurd h h0
def nextIns (m : HartM) (l : List PageM) (mem : List Int) : Int × InsM :=
  if (placeOf m l mem m.pc 4).1 = 0 then decIns (mem.getD (placeOf m l mem m.pc 4).2.toNat 0) else ((placeOf m l mem m.pc 4).1, ⟨0, 0, 0, 0⟩)
theorem placeOf_run {m : HartM} {l : List PageM} {mem : List Int} (at_ : Int) (h : (placeOf m l mem at_ 4).1 = 0) : stepF m l mem = 0 ∧ placeOf m l mem at_ 4 = placeM m l mem at_ 4 ∧ 0 ≤ (placeOf m l mem at_ 4).2 ∧ (placeOf m l mem at_ 4).2 < mem.length ∧ isW (mem.getD (placeOf m l mem at_ 4).2.toNat 0) = true := by
  by_cases h0 : stepF m l mem = 0
  · have e : placeOf m l mem at_ 4 = placeM m l mem at_ 4 := by unfold placeOf; rw [if_pos h0]; rfl
    rw [e] at h
    have h2 := placeM_run (stepF_ok h0) at_ h
    rw [e]
    refine ⟨h0, rfl, h2.1, h2.2, ?_⟩
    rw [getD_at _ (by omega)]
    exact (stepF_ok h0).ram.word _ (List.getElem_mem _)
  · unfold placeOf at h
    rw [if_neg h0] at h
    exact absurd h h0
theorem c_impl_NextIns (m : HartM) (hs : m.small) (l : List PageM) (hl : l.length ≤ 1048576) (mem : List Int) (hm : mem.length ≤ 1048576) : FnOK Try.prog 64 [hartLV m, .d (pages l), .d (ints mem)] (.r (insR (nextIns m l mem))) := by
  have cp := c_impl_PlaceOf m hs l hl mem hm m.pc 4
  have hr := fun h => placeOf_run (m := m) (l := l) (mem := mem) m.pc h
  generalize hv : nextIns m l mem = v
  unfold nextIns at hv
  generalize placeOf m l mem m.pc 4 = q at *
  by_cases h0 : q.1 = 0
  · have hr := hr h0
    rw [if_pos h0] at hv
    have cd := c_impl_DecodeIns (mem.getD q.2.toNat 0)
    rw [hv] at cd
    refine fn_of lv64 Try.func64 rfl rfl (by kernel_rfl) rfl ?_
    refine .inl ⟨_, _, rfl, cp, rfl, ?_⟩
    refine bsplit_of_false (by rw [h0]; rfl) ?_
    refine ask_intro ⟨hr.2.2.1, hr.2.2.2.1, rfl⟩ ?_
    refine .inl ⟨_, _, rfl, cd, rfl, ?_⟩
    exact ⟨⟨rfl, rfl, rfl, rfl, rfl, trivial⟩, rfl⟩
  · rw [if_neg h0] at hv
    subst hv
    refine fn_of lv64 Try.func64 rfl rfl (by kernel_rfl) rfl ?_
    refine .inl ⟨_, _, rfl, cp, rfl, ?_⟩
    refine bsplit_of_true (bne_iff_ne.2 h0) ?_
    exact ⟨⟨rfl, rfl, rfl, rfl, rfl, trivial⟩, rfl⟩
theorem c_spec_NextIns (m : HartM) (hs : m.small) (l : List PageM) (hl : l.length ≤ 1048576) (mem : List Int) (hm : mem.length ≤ 1048576) : FnOK Try.prog 63 [hartLV m, .d (pages l), .d (ints mem)] (.r (insR (nextIns m l mem))) := by
  have ca := c_spec_l10Asked m hs l hl mem hm
  have cp := fun h => c_spec_l10Place m l mem (stepF_ok h) m.pc 4 rfl
  have hr := fun h => placeOf_run (m := m) (l := l) (mem := mem) m.pc h
  have hpo : stepF m l mem = 0 → placeOf m l mem m.pc 4 = placeM m l mem m.pc 4 := fun h => by unfold placeOf; rw [if_pos h]; rfl
  have hpo2 : stepF m l mem ≠ 0 → placeOf m l mem m.pc 4 = (stepF m l mem, 0) := fun h => by unfold placeOf; rw [if_neg h]
  generalize hv : nextIns m l mem = v
  unfold nextIns at hv
  by_cases hs0 : stepF m l mem = 0
  rotate_left
  · rw [hpo2 hs0, if_neg hs0] at hv
    subst hv
    refine fn_of lv63 Try.func63 rfl rfl (by kernel_rfl) rfl ?_
    refine .inl ⟨_, _, rfl, ca, rfl, ?_⟩
    refine bsplit_of_true (bne_iff_ne.2 hs0) ?_
    exact ⟨⟨rfl, rfl, rfl, rfl, rfl, trivial⟩, rfl⟩
  have cp := cp hs0
  rw [← hpo hs0] at cp
  clear hpo hpo2
  generalize placeOf m l mem m.pc 4 = q at *
  by_cases h0 : q.1 = 0
  · have hr := hr h0
    rw [if_pos h0] at hv
    have cd := c_spec_DecodeIns (mem.getD q.2.toNat 0) hr.2.2.2.2
    rw [hv] at cd
    refine fn_of lv63 Try.func63 rfl rfl (by kernel_rfl) rfl ?_
    refine .inl ⟨_, _, rfl, ca, rfl, ?_⟩
    refine bsplit_of_false (by rw [hs0]; rfl) ?_
    refine .inl ⟨_, _, rfl, cp, rfl, ?_⟩
    refine bsplit_of_false (by rw [h0]; rfl) ?_
    refine ask_intro ⟨hr.2.2.1, hr.2.2.2.1, rfl⟩ ?_
    refine .inl ⟨_, _, rfl, cd, rfl, ?_⟩
    exact ⟨⟨rfl, rfl, rfl, rfl, rfl, trivial⟩, rfl⟩
  · rw [if_neg h0] at hv
    subst hv
    refine fn_of lv63 Try.func63 rfl rfl (by kernel_rfl) rfl ?_
    refine .inl ⟨_, _, rfl, ca, rfl, ?_⟩
    refine bsplit_of_false (by rw [hs0]; rfl) ?_
    refine .inl ⟨_, _, rfl, cp, rfl, ?_⟩
    refine bsplit_of_true (bne_iff_ne.2 h0) ?_
    exact ⟨⟨rfl, rfl, rfl, rfl, rfl, trivial⟩, rfl⟩
theorem c_laws_eqIns (p q : InsM) : FnOK Try.prog 112 [insLV p, insLV q] (rb (decide (p = q))) := by
  refine fn_of lv112 Try.func112 rfl rfl (by kernel_rfl) rfl ?_
  repeat' (first | refine bsplit_true ?_ | refine bsplit_false ?_ | refine bsplit_intro (fun h => ?_) (fun h => ?_))
  all_goals refine ⟨⟨congrArg Value.bool ?_, trivial⟩, rfl⟩
  all_goals (obtain ⟨a1, a2, a3, a4⟩ := p; obtain ⟨b1, b2, b3, b4⟩ := q; simp_all)
theorem c_laws_eqInsResult (p q : Int × InsM) : FnOK Try.prog 65 [insRLV p, insRLV q] (rb (decide (p = q))) := by
  refine fn_of lv65 Try.func65 rfl rfl (by kernel_rfl) rfl ?_
  repeat' (first | refine bsplit_true ?_ | refine bsplit_false ?_ | refine .inl ⟨_, _, rfl, c_laws_eqIns p.2 q.2, rfl, ?_⟩ | refine bsplit_intro (fun h => ?_) (fun h => ?_))
  all_goals refine ⟨⟨congrArg Value.bool ?_, trivial⟩, rfl⟩
  all_goals (obtain ⟨a1, a2⟩ := p; obtain ⟨b1, b2⟩ := q; simp_all)
end Go.Proofs.Ytfcekiehcchebaa.L

/- What the functions compute that draw instructions and images: contracts. -/
set_option linter.unusedVariables false
set_option linter.unusedSimpArgs false
set_option maxRecDepth 100000
namespace Go.Proofs.Ytfcekiehcchebaa.L
open Go.RowKit
set_option maxHeartbeats 4000000 in
theorem c_spec_l2Ins (c : List Int) (hc : okCode c) (p : Int) (hp : 0 ≤ p) (hp2 : p ≤ 1099511627) : MutS Try.prog 161 [.ptr 0 0] 1 [(0, srcBox c p)]
    (fun lv m' hp1 => ∃ (x : InsM) (q : Int), p ≤ q ∧ q ≤ p + 8 ∧ lv = insLV x ∧ m' = 1 ∧ hp1 = [(0, srcBox c q)]) := by
  have h26 := nx_in (c := c) hc (p := p) (n := 26) (by omega) (by omega)
  have hw : IntKind.i64.wrap (1 + nx c p 26) = 1 + nx c p 26 := wrap_i64 _ (by omega) (by omega)
  have cb := c_spec_l2Bare (IntKind.i64.wrap (1 + nx c p 26)) (by omega) (by omega)
  refine mutS_fn_of lv161 Try.func161 rfl rfl (by kernel_rfl) rfl ?_
  repeat' (first | refine bsplit_true ?_ | refine bsplit_false ?_ | (refine .inr ⟨rfl, use_mut ⟨?_, ?_, ?_, ?_, ?_, ?_, ?_, ?_, ?_, ?_, ?_⟩⟩; rotate_left 6; exact rfl; exact rfl; (first | (refine c_spec_l1Next c hc _ _ ?_ ?_ <;> (first | omega | (dsimp only; omega))) | (refine pick3 c hc _ _ _ _ ?_ ?_ <;> (first | omega | (dsimp only; omega))) | (refine pick4 c hc _ _ _ _ _ ?_ ?_ <;> (first | omega | (dsimp only; omega))) | (refine pick2 c hc _ _ _ ?_ ?_ <;> (first | omega | (dsimp only; omega))) | (refine pick6 c hc _ _ _ _ _ _ _ ?_ ?_ <;> (first | omega | (dsimp only; omega))) | (refine pick7 c hc _ _ _ _ _ _ _ _ ?_ ?_ <;> (first | omega | (dsimp only; omega))) | (refine pick5 c hc _ _ _ _ _ _ ?_ ?_ <;> (first | omega | (dsimp only; omega))) | (refine c_spec_l1Chance c hc _ _ ?_ ?_ <;> (first | omega | (dsimp only; omega))) | (refine c_spec_l1Word c hc _ ?_ ?_ <;> (first | omega | (dsimp only; omega)))); rfl))
  refine .inl ⟨_, _, rfl, cb, rfl, ?_⟩
  repeat' (first | refine bsplit_true ?_ | refine bsplit_false ?_ | refine ask_intro (by decide) ?_ | refine bsplit_intro (fun h => ?_) (fun h => ?_))
  all_goals exact ⟨_, _, _, [], ⟨⟨_, _, _, _⟩, p + 1 + 1 + 1 + 1 + 1 + 1 + 1, by omega, by omega, rfl, rfl, rfl⟩, chk_intro (by kernel_rfl) ⟨⟨rfl, rfl, rfl, rfl, trivial⟩, tellHp_box rfl rfl ⟨DLe.refl _, rfl, trivial⟩ tellHp_nil⟩⟩
end Go.Proofs.Ytfcekiehcchebaa.L

/- What the functions compute that draw an image's instructions: contracts. -/
set_option linter.unusedVariables false
set_option linter.unusedSimpArgs false
set_option maxRecDepth 100000
namespace Go.Proofs.Ytfcekiehcchebaa.L
open Go.RowKit
abbrev l7InsP (c : List Int) (p : Int) (lv : LV) (m' : Nat) (hp1 : List (Nat × Ent)) : Prop := ∃ (x : InsM) (q : Int), p ≤ q ∧ q ≤ p + 10 ∧ lv = insLV x ∧ m' = 1 ∧ hp1 = [(0, srcBox c q)]
theorem c_l7_0 (c : List Int) (hc : okCode c) (p : Int) (hp : 0 ≤ p) (hp2 : p ≤ 109951162) (hv : nx c (p + 1) 14 = 0) : MutS Try.prog 158 [.ptr 0 0] 1 [(0, srcBox c p)] (l7InsP c p) := by
  have c3 := c_spec_l1Next c hc p 3 (by omega) (by omega)
  have c14 := c_spec_l1Next c hc (p + 1) 14 (by omega) (by omega)
  rw [hv] at c14
  refine mutS_fn_of lv158 Try.func158 rfl rfl (by kernel_rfl) rfl ?_
  refine .inr ⟨rfl, use_mut ⟨_, _, _, _, _, _, rfl, rfl, c3, rfl, ?_⟩⟩
  refine .inr ⟨rfl, use_mut ⟨_, _, _, _, _, _, rfl, rfl, c14, rfl, ?_⟩⟩
  repeat' (first | refine bsplit_true ?_ | refine bsplit_false ?_ | (refine .inr ⟨rfl, use_mut ⟨?_, ?_, ?_, ?_, ?_, ?_, ?_, ?_, ?_, ?_, ?_⟩⟩; rotate_left 6; exact rfl; exact rfl; (first | (refine c_spec_l1Next c hc _ _ ?_ ?_ <;> (first | omega | (dsimp only; omega))) | (refine pick3 c hc _ _ _ _ ?_ ?_ <;> (first | omega | (dsimp only; omega))) | (refine pick4 c hc _ _ _ _ _ ?_ ?_ <;> (first | omega | (dsimp only; omega))) | (refine pick2 c hc _ _ _ ?_ ?_ <;> (first | omega | (dsimp only; omega))) | (refine pick6 c hc _ _ _ _ _ _ _ ?_ ?_ <;> (first | omega | (dsimp only; omega))) | (refine pick7 c hc _ _ _ _ _ _ _ _ ?_ ?_ <;> (first | omega | (dsimp only; omega))) | (refine pick5 c hc _ _ _ _ _ _ ?_ ?_ <;> (first | omega | (dsimp only; omega))) | (refine c_spec_l1Chance c hc _ _ ?_ ?_ <;> (first | omega | (dsimp only; omega))) | (refine c_spec_l1Word c hc _ ?_ ?_ <;> (first | omega | (dsimp only; omega)))); rfl))
  exact ⟨_, _, _, [], ⟨⟨_, _, _, _⟩, p + 1 + 1 + 1 + 1 + 1 + 1 + 1, by omega, by omega, rfl, rfl, rfl⟩, chk_intro (by kernel_rfl) ⟨⟨rfl, rfl, rfl, rfl, trivial⟩, tellHp_box rfl rfl ⟨DLe.refl _, rfl, trivial⟩ tellHp_nil⟩⟩
theorem c_l7_1 (c : List Int) (hc : okCode c) (p : Int) (hp : 0 ≤ p) (hp2 : p ≤ 109951162) (hv : nx c (p + 1) 14 = 1) : MutS Try.prog 158 [.ptr 0 0] 1 [(0, srcBox c p)] (l7InsP c p) := by
  have c3 := c_spec_l1Next c hc p 3 (by omega) (by omega)
  have c14 := c_spec_l1Next c hc (p + 1) 14 (by omega) (by omega)
  rw [hv] at c14
  refine mutS_fn_of lv158 Try.func158 rfl rfl (by kernel_rfl) rfl ?_
  refine .inr ⟨rfl, use_mut ⟨_, _, _, _, _, _, rfl, rfl, c3, rfl, ?_⟩⟩
  refine .inr ⟨rfl, use_mut ⟨_, _, _, _, _, _, rfl, rfl, c14, rfl, ?_⟩⟩
  repeat' (first | refine bsplit_true ?_ | refine bsplit_false ?_ | (refine .inr ⟨rfl, use_mut ⟨?_, ?_, ?_, ?_, ?_, ?_, ?_, ?_, ?_, ?_, ?_⟩⟩; rotate_left 6; exact rfl; exact rfl; (first | (refine c_spec_l1Next c hc _ _ ?_ ?_ <;> (first | omega | (dsimp only; omega))) | (refine pick3 c hc _ _ _ _ ?_ ?_ <;> (first | omega | (dsimp only; omega))) | (refine pick4 c hc _ _ _ _ _ ?_ ?_ <;> (first | omega | (dsimp only; omega))) | (refine pick2 c hc _ _ _ ?_ ?_ <;> (first | omega | (dsimp only; omega))) | (refine pick6 c hc _ _ _ _ _ _ _ ?_ ?_ <;> (first | omega | (dsimp only; omega))) | (refine pick7 c hc _ _ _ _ _ _ _ _ ?_ ?_ <;> (first | omega | (dsimp only; omega))) | (refine pick5 c hc _ _ _ _ _ _ ?_ ?_ <;> (first | omega | (dsimp only; omega))) | (refine c_spec_l1Chance c hc _ _ ?_ ?_ <;> (first | omega | (dsimp only; omega))) | (refine c_spec_l1Word c hc _ ?_ ?_ <;> (first | omega | (dsimp only; omega)))); rfl))
  exact ⟨_, _, _, [], ⟨⟨_, _, _, _⟩, p + 1 + 1 + 1 + 1 + 1 + 1 + 1, by omega, by omega, rfl, rfl, rfl⟩, chk_intro (by kernel_rfl) ⟨⟨rfl, rfl, rfl, rfl, trivial⟩, tellHp_box rfl rfl ⟨DLe.refl _, rfl, trivial⟩ tellHp_nil⟩⟩
theorem c_l7_2 (c : List Int) (hc : okCode c) (p : Int) (hp : 0 ≤ p) (hp2 : p ≤ 109951162) (hv : nx c (p + 1) 14 = 2) : MutS Try.prog 158 [.ptr 0 0] 1 [(0, srcBox c p)] (l7InsP c p) := by
  have c3 := c_spec_l1Next c hc p 3 (by omega) (by omega)
  have c14 := c_spec_l1Next c hc (p + 1) 14 (by omega) (by omega)
  rw [hv] at c14
  refine mutS_fn_of lv158 Try.func158 rfl rfl (by kernel_rfl) rfl ?_
  refine .inr ⟨rfl, use_mut ⟨_, _, _, _, _, _, rfl, rfl, c3, rfl, ?_⟩⟩
  refine .inr ⟨rfl, use_mut ⟨_, _, _, _, _, _, rfl, rfl, c14, rfl, ?_⟩⟩
  repeat' (first | refine bsplit_true ?_ | refine bsplit_false ?_ | (refine .inr ⟨rfl, use_mut ⟨?_, ?_, ?_, ?_, ?_, ?_, ?_, ?_, ?_, ?_, ?_⟩⟩; rotate_left 6; exact rfl; exact rfl; (first | (refine c_spec_l1Next c hc _ _ ?_ ?_ <;> (first | omega | (dsimp only; omega))) | (refine pick3 c hc _ _ _ _ ?_ ?_ <;> (first | omega | (dsimp only; omega))) | (refine pick4 c hc _ _ _ _ _ ?_ ?_ <;> (first | omega | (dsimp only; omega))) | (refine pick2 c hc _ _ _ ?_ ?_ <;> (first | omega | (dsimp only; omega))) | (refine pick6 c hc _ _ _ _ _ _ _ ?_ ?_ <;> (first | omega | (dsimp only; omega))) | (refine pick7 c hc _ _ _ _ _ _ _ _ ?_ ?_ <;> (first | omega | (dsimp only; omega))) | (refine pick5 c hc _ _ _ _ _ _ ?_ ?_ <;> (first | omega | (dsimp only; omega))) | (refine c_spec_l1Chance c hc _ _ ?_ ?_ <;> (first | omega | (dsimp only; omega))) | (refine c_spec_l1Word c hc _ ?_ ?_ <;> (first | omega | (dsimp only; omega)))); rfl))
  exact ⟨_, _, _, [], ⟨⟨_, _, _, _⟩, p + 1 + 1 + 1 + 1 + 1 + 1 + 1, by omega, by omega, rfl, rfl, rfl⟩, chk_intro (by kernel_rfl) ⟨⟨rfl, rfl, rfl, rfl, trivial⟩, tellHp_box rfl rfl ⟨DLe.refl _, rfl, trivial⟩ tellHp_nil⟩⟩
theorem c_l7_3 (c : List Int) (hc : okCode c) (p : Int) (hp : 0 ≤ p) (hp2 : p ≤ 109951162) (hv : nx c (p + 1) 14 = 3) : MutS Try.prog 158 [.ptr 0 0] 1 [(0, srcBox c p)] (l7InsP c p) := by
  have c3 := c_spec_l1Next c hc p 3 (by omega) (by omega)
  have c14 := c_spec_l1Next c hc (p + 1) 14 (by omega) (by omega)
  rw [hv] at c14
  refine mutS_fn_of lv158 Try.func158 rfl rfl (by kernel_rfl) rfl ?_
  refine .inr ⟨rfl, use_mut ⟨_, _, _, _, _, _, rfl, rfl, c3, rfl, ?_⟩⟩
  refine .inr ⟨rfl, use_mut ⟨_, _, _, _, _, _, rfl, rfl, c14, rfl, ?_⟩⟩
  repeat' (first | refine bsplit_true ?_ | refine bsplit_false ?_ | (refine .inr ⟨rfl, use_mut ⟨?_, ?_, ?_, ?_, ?_, ?_, ?_, ?_, ?_, ?_, ?_⟩⟩; rotate_left 6; exact rfl; exact rfl; (first | (refine c_spec_l1Next c hc _ _ ?_ ?_ <;> (first | omega | (dsimp only; omega))) | (refine pick3 c hc _ _ _ _ ?_ ?_ <;> (first | omega | (dsimp only; omega))) | (refine pick4 c hc _ _ _ _ _ ?_ ?_ <;> (first | omega | (dsimp only; omega))) | (refine pick2 c hc _ _ _ ?_ ?_ <;> (first | omega | (dsimp only; omega))) | (refine pick6 c hc _ _ _ _ _ _ _ ?_ ?_ <;> (first | omega | (dsimp only; omega))) | (refine pick7 c hc _ _ _ _ _ _ _ _ ?_ ?_ <;> (first | omega | (dsimp only; omega))) | (refine pick5 c hc _ _ _ _ _ _ ?_ ?_ <;> (first | omega | (dsimp only; omega))) | (refine c_spec_l1Chance c hc _ _ ?_ ?_ <;> (first | omega | (dsimp only; omega))) | (refine c_spec_l1Word c hc _ ?_ ?_ <;> (first | omega | (dsimp only; omega)))); rfl))
  exact ⟨_, _, _, [], ⟨⟨_, _, _, _⟩, p + 1 + 1 + 1 + 1 + 1, by omega, by omega, rfl, rfl, rfl⟩, chk_intro (by kernel_rfl) ⟨⟨rfl, rfl, rfl, rfl, trivial⟩, tellHp_box rfl rfl ⟨DLe.refl _, rfl, trivial⟩ tellHp_nil⟩⟩
theorem c_l7_4 (c : List Int) (hc : okCode c) (p : Int) (hp : 0 ≤ p) (hp2 : p ≤ 109951162) (hv : nx c (p + 1) 14 = 4) : MutS Try.prog 158 [.ptr 0 0] 1 [(0, srcBox c p)] (l7InsP c p) := by
  have c3 := c_spec_l1Next c hc p 3 (by omega) (by omega)
  have c14 := c_spec_l1Next c hc (p + 1) 14 (by omega) (by omega)
  rw [hv] at c14
  refine mutS_fn_of lv158 Try.func158 rfl rfl (by kernel_rfl) rfl ?_
  refine .inr ⟨rfl, use_mut ⟨_, _, _, _, _, _, rfl, rfl, c3, rfl, ?_⟩⟩
  refine .inr ⟨rfl, use_mut ⟨_, _, _, _, _, _, rfl, rfl, c14, rfl, ?_⟩⟩
  repeat' (first | refine bsplit_true ?_ | refine bsplit_false ?_ | (refine .inr ⟨rfl, use_mut ⟨?_, ?_, ?_, ?_, ?_, ?_, ?_, ?_, ?_, ?_, ?_⟩⟩; rotate_left 6; exact rfl; exact rfl; (first | (refine c_spec_l1Next c hc _ _ ?_ ?_ <;> (first | omega | (dsimp only; omega))) | (refine pick3 c hc _ _ _ _ ?_ ?_ <;> (first | omega | (dsimp only; omega))) | (refine pick4 c hc _ _ _ _ _ ?_ ?_ <;> (first | omega | (dsimp only; omega))) | (refine pick2 c hc _ _ _ ?_ ?_ <;> (first | omega | (dsimp only; omega))) | (refine pick6 c hc _ _ _ _ _ _ _ ?_ ?_ <;> (first | omega | (dsimp only; omega))) | (refine pick7 c hc _ _ _ _ _ _ _ _ ?_ ?_ <;> (first | omega | (dsimp only; omega))) | (refine pick5 c hc _ _ _ _ _ _ ?_ ?_ <;> (first | omega | (dsimp only; omega))) | (refine c_spec_l1Chance c hc _ _ ?_ ?_ <;> (first | omega | (dsimp only; omega))) | (refine c_spec_l1Word c hc _ ?_ ?_ <;> (first | omega | (dsimp only; omega)))); rfl))
  exact ⟨_, _, _, [], ⟨⟨_, _, _, _⟩, p + 1 + 1 + 1 + 1 + 1 + 1 + 1, by omega, by omega, rfl, rfl, rfl⟩, chk_intro (by kernel_rfl) ⟨⟨rfl, rfl, rfl, rfl, trivial⟩, tellHp_box rfl rfl ⟨DLe.refl _, rfl, trivial⟩ tellHp_nil⟩⟩
theorem c_l7_5 (c : List Int) (hc : okCode c) (p : Int) (hp : 0 ≤ p) (hp2 : p ≤ 109951162) (hv : nx c (p + 1) 14 = 5) : MutS Try.prog 158 [.ptr 0 0] 1 [(0, srcBox c p)] (l7InsP c p) := by
  have c3 := c_spec_l1Next c hc p 3 (by omega) (by omega)
  have c14 := c_spec_l1Next c hc (p + 1) 14 (by omega) (by omega)
  rw [hv] at c14
  refine mutS_fn_of lv158 Try.func158 rfl rfl (by kernel_rfl) rfl ?_
  refine .inr ⟨rfl, use_mut ⟨_, _, _, _, _, _, rfl, rfl, c3, rfl, ?_⟩⟩
  refine .inr ⟨rfl, use_mut ⟨_, _, _, _, _, _, rfl, rfl, c14, rfl, ?_⟩⟩
  repeat' (first | refine bsplit_true ?_ | refine bsplit_false ?_ | (refine .inr ⟨rfl, use_mut ⟨?_, ?_, ?_, ?_, ?_, ?_, ?_, ?_, ?_, ?_, ?_⟩⟩; rotate_left 6; exact rfl; exact rfl; (first | (refine c_spec_l1Next c hc _ _ ?_ ?_ <;> (first | omega | (dsimp only; omega))) | (refine pick3 c hc _ _ _ _ ?_ ?_ <;> (first | omega | (dsimp only; omega))) | (refine pick4 c hc _ _ _ _ _ ?_ ?_ <;> (first | omega | (dsimp only; omega))) | (refine pick2 c hc _ _ _ ?_ ?_ <;> (first | omega | (dsimp only; omega))) | (refine pick6 c hc _ _ _ _ _ _ _ ?_ ?_ <;> (first | omega | (dsimp only; omega))) | (refine pick7 c hc _ _ _ _ _ _ _ _ ?_ ?_ <;> (first | omega | (dsimp only; omega))) | (refine pick5 c hc _ _ _ _ _ _ ?_ ?_ <;> (first | omega | (dsimp only; omega))) | (refine c_spec_l1Chance c hc _ _ ?_ ?_ <;> (first | omega | (dsimp only; omega))) | (refine c_spec_l1Word c hc _ ?_ ?_ <;> (first | omega | (dsimp only; omega)))); rfl))
  exact ⟨_, _, _, [], ⟨⟨_, _, _, _⟩, p + 1 + 1 + 1 + 1 + 1 + 1 + 1, by omega, by omega, rfl, rfl, rfl⟩, chk_intro (by kernel_rfl) ⟨⟨rfl, rfl, rfl, rfl, trivial⟩, tellHp_box rfl rfl ⟨DLe.refl _, rfl, trivial⟩ tellHp_nil⟩⟩
theorem c_l7_6 (c : List Int) (hc : okCode c) (p : Int) (hp : 0 ≤ p) (hp2 : p ≤ 109951162) (hv : nx c (p + 1) 14 = 6) : MutS Try.prog 158 [.ptr 0 0] 1 [(0, srcBox c p)] (l7InsP c p) := by
  have c3 := c_spec_l1Next c hc p 3 (by omega) (by omega)
  have c14 := c_spec_l1Next c hc (p + 1) 14 (by omega) (by omega)
  rw [hv] at c14
  refine mutS_fn_of lv158 Try.func158 rfl rfl (by kernel_rfl) rfl ?_
  refine .inr ⟨rfl, use_mut ⟨_, _, _, _, _, _, rfl, rfl, c3, rfl, ?_⟩⟩
  refine .inr ⟨rfl, use_mut ⟨_, _, _, _, _, _, rfl, rfl, c14, rfl, ?_⟩⟩
  repeat' (first | refine bsplit_true ?_ | refine bsplit_false ?_ | (refine .inr ⟨rfl, use_mut ⟨?_, ?_, ?_, ?_, ?_, ?_, ?_, ?_, ?_, ?_, ?_⟩⟩; rotate_left 6; exact rfl; exact rfl; (first | (refine c_spec_l1Next c hc _ _ ?_ ?_ <;> (first | omega | (dsimp only; omega))) | (refine pick3 c hc _ _ _ _ ?_ ?_ <;> (first | omega | (dsimp only; omega))) | (refine pick4 c hc _ _ _ _ _ ?_ ?_ <;> (first | omega | (dsimp only; omega))) | (refine pick2 c hc _ _ _ ?_ ?_ <;> (first | omega | (dsimp only; omega))) | (refine pick6 c hc _ _ _ _ _ _ _ ?_ ?_ <;> (first | omega | (dsimp only; omega))) | (refine pick7 c hc _ _ _ _ _ _ _ _ ?_ ?_ <;> (first | omega | (dsimp only; omega))) | (refine pick5 c hc _ _ _ _ _ _ ?_ ?_ <;> (first | omega | (dsimp only; omega))) | (refine c_spec_l1Chance c hc _ _ ?_ ?_ <;> (first | omega | (dsimp only; omega))) | (refine c_spec_l1Word c hc _ ?_ ?_ <;> (first | omega | (dsimp only; omega)))); rfl))
  exact ⟨_, _, _, [], ⟨⟨_, _, _, _⟩, p + 1 + 1 + 1 + 1 + 1 + 1 + 1, by omega, by omega, rfl, rfl, rfl⟩, chk_intro (by kernel_rfl) ⟨⟨rfl, rfl, rfl, rfl, trivial⟩, tellHp_box rfl rfl ⟨DLe.refl _, rfl, trivial⟩ tellHp_nil⟩⟩
theorem c_l7_7 (c : List Int) (hc : okCode c) (p : Int) (hp : 0 ≤ p) (hp2 : p ≤ 109951162) (hv : nx c (p + 1) 14 = 7) : MutS Try.prog 158 [.ptr 0 0] 1 [(0, srcBox c p)] (l7InsP c p) := by
  have c3 := c_spec_l1Next c hc p 3 (by omega) (by omega)
  have c14 := c_spec_l1Next c hc (p + 1) 14 (by omega) (by omega)
  rw [hv] at c14
  refine mutS_fn_of lv158 Try.func158 rfl rfl (by kernel_rfl) rfl ?_
  refine .inr ⟨rfl, use_mut ⟨_, _, _, _, _, _, rfl, rfl, c3, rfl, ?_⟩⟩
  refine .inr ⟨rfl, use_mut ⟨_, _, _, _, _, _, rfl, rfl, c14, rfl, ?_⟩⟩
  repeat' (first | refine bsplit_true ?_ | refine bsplit_false ?_ | (refine .inr ⟨rfl, use_mut ⟨?_, ?_, ?_, ?_, ?_, ?_, ?_, ?_, ?_, ?_, ?_⟩⟩; rotate_left 6; exact rfl; exact rfl; (first | (refine c_spec_l1Next c hc _ _ ?_ ?_ <;> (first | omega | (dsimp only; omega))) | (refine pick3 c hc _ _ _ _ ?_ ?_ <;> (first | omega | (dsimp only; omega))) | (refine pick4 c hc _ _ _ _ _ ?_ ?_ <;> (first | omega | (dsimp only; omega))) | (refine pick2 c hc _ _ _ ?_ ?_ <;> (first | omega | (dsimp only; omega))) | (refine pick6 c hc _ _ _ _ _ _ _ ?_ ?_ <;> (first | omega | (dsimp only; omega))) | (refine pick7 c hc _ _ _ _ _ _ _ _ ?_ ?_ <;> (first | omega | (dsimp only; omega))) | (refine pick5 c hc _ _ _ _ _ _ ?_ ?_ <;> (first | omega | (dsimp only; omega))) | (refine c_spec_l1Chance c hc _ _ ?_ ?_ <;> (first | omega | (dsimp only; omega))) | (refine c_spec_l1Word c hc _ ?_ ?_ <;> (first | omega | (dsimp only; omega)))); rfl))
  exact ⟨_, _, _, [], ⟨⟨_, _, _, _⟩, p + 1 + 1 + 1 + 1 + 1 + 1 + 1, by omega, by omega, rfl, rfl, rfl⟩, chk_intro (by kernel_rfl) ⟨⟨rfl, rfl, rfl, rfl, trivial⟩, tellHp_box rfl rfl ⟨DLe.refl _, rfl, trivial⟩ tellHp_nil⟩⟩
theorem c_l7_8 (c : List Int) (hc : okCode c) (p : Int) (hp : 0 ≤ p) (hp2 : p ≤ 109951162) (hv : nx c (p + 1) 14 = 8) : MutS Try.prog 158 [.ptr 0 0] 1 [(0, srcBox c p)] (l7InsP c p) := by
  have c3 := c_spec_l1Next c hc p 3 (by omega) (by omega)
  have c14 := c_spec_l1Next c hc (p + 1) 14 (by omega) (by omega)
  rw [hv] at c14
  refine mutS_fn_of lv158 Try.func158 rfl rfl (by kernel_rfl) rfl ?_
  refine .inr ⟨rfl, use_mut ⟨_, _, _, _, _, _, rfl, rfl, c3, rfl, ?_⟩⟩
  refine .inr ⟨rfl, use_mut ⟨_, _, _, _, _, _, rfl, rfl, c14, rfl, ?_⟩⟩
  repeat' (first | refine bsplit_true ?_ | refine bsplit_false ?_ | (refine .inr ⟨rfl, use_mut ⟨?_, ?_, ?_, ?_, ?_, ?_, ?_, ?_, ?_, ?_, ?_⟩⟩; rotate_left 6; exact rfl; exact rfl; (first | (refine c_spec_l1Next c hc _ _ ?_ ?_ <;> (first | omega | (dsimp only; omega))) | (refine pick3 c hc _ _ _ _ ?_ ?_ <;> (first | omega | (dsimp only; omega))) | (refine pick4 c hc _ _ _ _ _ ?_ ?_ <;> (first | omega | (dsimp only; omega))) | (refine pick2 c hc _ _ _ ?_ ?_ <;> (first | omega | (dsimp only; omega))) | (refine pick6 c hc _ _ _ _ _ _ _ ?_ ?_ <;> (first | omega | (dsimp only; omega))) | (refine pick7 c hc _ _ _ _ _ _ _ _ ?_ ?_ <;> (first | omega | (dsimp only; omega))) | (refine pick5 c hc _ _ _ _ _ _ ?_ ?_ <;> (first | omega | (dsimp only; omega))) | (refine c_spec_l1Chance c hc _ _ ?_ ?_ <;> (first | omega | (dsimp only; omega))) | (refine c_spec_l1Word c hc _ ?_ ?_ <;> (first | omega | (dsimp only; omega)))); rfl))
  exact ⟨_, _, _, [], ⟨⟨_, _, _, _⟩, p + 1 + 1 + 1 + 1 + 1, by omega, by omega, rfl, rfl, rfl⟩, chk_intro (by kernel_rfl) ⟨⟨rfl, rfl, rfl, rfl, trivial⟩, tellHp_box rfl rfl ⟨DLe.refl _, rfl, trivial⟩ tellHp_nil⟩⟩
theorem c_l7_9 (c : List Int) (hc : okCode c) (p : Int) (hp : 0 ≤ p) (hp2 : p ≤ 109951162) (hv : nx c (p + 1) 14 = 9) : MutS Try.prog 158 [.ptr 0 0] 1 [(0, srcBox c p)] (l7InsP c p) := by
  have c3 := c_spec_l1Next c hc p 3 (by omega) (by omega)
  have c14 := c_spec_l1Next c hc (p + 1) 14 (by omega) (by omega)
  rw [hv] at c14
  refine mutS_fn_of lv158 Try.func158 rfl rfl (by kernel_rfl) rfl ?_
  refine .inr ⟨rfl, use_mut ⟨_, _, _, _, _, _, rfl, rfl, c3, rfl, ?_⟩⟩
  refine .inr ⟨rfl, use_mut ⟨_, _, _, _, _, _, rfl, rfl, c14, rfl, ?_⟩⟩
  repeat' (first | refine bsplit_true ?_ | refine bsplit_false ?_ | (refine .inr ⟨rfl, use_mut ⟨?_, ?_, ?_, ?_, ?_, ?_, ?_, ?_, ?_, ?_, ?_⟩⟩; rotate_left 6; exact rfl; exact rfl; (first | (refine c_spec_l1Next c hc _ _ ?_ ?_ <;> (first | omega | (dsimp only; omega))) | (refine pick3 c hc _ _ _ _ ?_ ?_ <;> (first | omega | (dsimp only; omega))) | (refine pick4 c hc _ _ _ _ _ ?_ ?_ <;> (first | omega | (dsimp only; omega))) | (refine pick2 c hc _ _ _ ?_ ?_ <;> (first | omega | (dsimp only; omega))) | (refine pick6 c hc _ _ _ _ _ _ _ ?_ ?_ <;> (first | omega | (dsimp only; omega))) | (refine pick7 c hc _ _ _ _ _ _ _ _ ?_ ?_ <;> (first | omega | (dsimp only; omega))) | (refine pick5 c hc _ _ _ _ _ _ ?_ ?_ <;> (first | omega | (dsimp only; omega))) | (refine c_spec_l1Chance c hc _ _ ?_ ?_ <;> (first | omega | (dsimp only; omega))) | (refine c_spec_l1Word c hc _ ?_ ?_ <;> (first | omega | (dsimp only; omega)))); rfl))
  exact ⟨_, _, _, [], ⟨⟨_, _, _, _⟩, p + 1 + 1 + 1, by omega, by omega, rfl, rfl, rfl⟩, chk_intro (by kernel_rfl) ⟨⟨rfl, rfl, rfl, rfl, trivial⟩, tellHp_box rfl rfl ⟨DLe.refl _, rfl, trivial⟩ tellHp_nil⟩⟩
theorem c_l7_10 (c : List Int) (hc : okCode c) (p : Int) (hp : 0 ≤ p) (hp2 : p ≤ 109951162) (hv : nx c (p + 1) 14 = 10) : MutS Try.prog 158 [.ptr 0 0] 1 [(0, srcBox c p)] (l7InsP c p) := by
  have c3 := c_spec_l1Next c hc p 3 (by omega) (by omega)
  have c14 := c_spec_l1Next c hc (p + 1) 14 (by omega) (by omega)
  rw [hv] at c14
  refine mutS_fn_of lv158 Try.func158 rfl rfl (by kernel_rfl) rfl ?_
  refine .inr ⟨rfl, use_mut ⟨_, _, _, _, _, _, rfl, rfl, c3, rfl, ?_⟩⟩
  refine .inr ⟨rfl, use_mut ⟨_, _, _, _, _, _, rfl, rfl, c14, rfl, ?_⟩⟩
  repeat' (first | refine bsplit_true ?_ | refine bsplit_false ?_ | (refine .inr ⟨rfl, use_mut ⟨?_, ?_, ?_, ?_, ?_, ?_, ?_, ?_, ?_, ?_, ?_⟩⟩; rotate_left 6; exact rfl; exact rfl; (first | (refine c_spec_l1Next c hc _ _ ?_ ?_ <;> (first | omega | (dsimp only; omega))) | (refine pick3 c hc _ _ _ _ ?_ ?_ <;> (first | omega | (dsimp only; omega))) | (refine pick4 c hc _ _ _ _ _ ?_ ?_ <;> (first | omega | (dsimp only; omega))) | (refine pick2 c hc _ _ _ ?_ ?_ <;> (first | omega | (dsimp only; omega))) | (refine pick6 c hc _ _ _ _ _ _ _ ?_ ?_ <;> (first | omega | (dsimp only; omega))) | (refine pick7 c hc _ _ _ _ _ _ _ _ ?_ ?_ <;> (first | omega | (dsimp only; omega))) | (refine pick5 c hc _ _ _ _ _ _ ?_ ?_ <;> (first | omega | (dsimp only; omega))) | (refine c_spec_l1Chance c hc _ _ ?_ ?_ <;> (first | omega | (dsimp only; omega))) | (refine c_spec_l1Word c hc _ ?_ ?_ <;> (first | omega | (dsimp only; omega)))); rfl))
  exact ⟨_, _, _, [], ⟨⟨_, _, _, _⟩, p + 1 + 1 + 1, by omega, by omega, rfl, rfl, rfl⟩, chk_intro (by kernel_rfl) ⟨⟨rfl, rfl, rfl, rfl, trivial⟩, tellHp_box rfl rfl ⟨DLe.refl _, rfl, trivial⟩ tellHp_nil⟩⟩
theorem c_l7_11 (c : List Int) (hc : okCode c) (p : Int) (hp : 0 ≤ p) (hp2 : p ≤ 109951162) (hv : nx c (p + 1) 14 = 11) : MutS Try.prog 158 [.ptr 0 0] 1 [(0, srcBox c p)] (l7InsP c p) := by
  have c3 := c_spec_l1Next c hc p 3 (by omega) (by omega)
  have c14 := c_spec_l1Next c hc (p + 1) 14 (by omega) (by omega)
  rw [hv] at c14
  refine mutS_fn_of lv158 Try.func158 rfl rfl (by kernel_rfl) rfl ?_
  refine .inr ⟨rfl, use_mut ⟨_, _, _, _, _, _, rfl, rfl, c3, rfl, ?_⟩⟩
  refine .inr ⟨rfl, use_mut ⟨_, _, _, _, _, _, rfl, rfl, c14, rfl, ?_⟩⟩
  repeat' (first | refine bsplit_true ?_ | refine bsplit_false ?_ | (refine .inr ⟨rfl, use_mut ⟨?_, ?_, ?_, ?_, ?_, ?_, ?_, ?_, ?_, ?_, ?_⟩⟩; rotate_left 6; exact rfl; exact rfl; (first | (refine c_spec_l1Next c hc _ _ ?_ ?_ <;> (first | omega | (dsimp only; omega))) | (refine pick3 c hc _ _ _ _ ?_ ?_ <;> (first | omega | (dsimp only; omega))) | (refine pick4 c hc _ _ _ _ _ ?_ ?_ <;> (first | omega | (dsimp only; omega))) | (refine pick2 c hc _ _ _ ?_ ?_ <;> (first | omega | (dsimp only; omega))) | (refine pick6 c hc _ _ _ _ _ _ _ ?_ ?_ <;> (first | omega | (dsimp only; omega))) | (refine pick7 c hc _ _ _ _ _ _ _ _ ?_ ?_ <;> (first | omega | (dsimp only; omega))) | (refine pick5 c hc _ _ _ _ _ _ ?_ ?_ <;> (first | omega | (dsimp only; omega))) | (refine c_spec_l1Chance c hc _ _ ?_ ?_ <;> (first | omega | (dsimp only; omega))) | (refine c_spec_l1Word c hc _ ?_ ?_ <;> (first | omega | (dsimp only; omega)))); rfl))
  exact ⟨_, _, _, [], ⟨⟨_, _, _, _⟩, p + 1 + 1 + 1 + 1, by omega, by omega, rfl, rfl, rfl⟩, chk_intro (by kernel_rfl) ⟨⟨rfl, rfl, rfl, rfl, trivial⟩, tellHp_box rfl rfl ⟨DLe.refl _, rfl, trivial⟩ tellHp_nil⟩⟩
theorem c_l7_12 (c : List Int) (hc : okCode c) (p : Int) (hp : 0 ≤ p) (hp2 : p ≤ 109951162) (hv : nx c (p + 1) 14 = 12) : MutS Try.prog 158 [.ptr 0 0] 1 [(0, srcBox c p)] (l7InsP c p) := by
  have c3 := c_spec_l1Next c hc p 3 (by omega) (by omega)
  have c14 := c_spec_l1Next c hc (p + 1) 14 (by omega) (by omega)
  have ci := c_spec_l2Ins c hc (p + 1 + 1) (by omega) (by omega)
  rw [hv] at c14
  refine mutS_fn_of lv158 Try.func158 rfl rfl (by kernel_rfl) rfl ?_
  refine .inr ⟨rfl, use_mut ⟨_, _, _, _, _, _, rfl, rfl, c3, rfl, ?_⟩⟩
  refine .inr ⟨rfl, use_mut ⟨_, _, _, _, _, _, rfl, rfl, c14, rfl, ?_⟩⟩
  repeat' (first | refine bsplit_true ?_ | refine bsplit_false ?_)
  refine .inr ⟨rfl, use_mutS ⟨_, _, _, _, rfl, rfl, ci, rfl, ?_⟩⟩
  rintro _ _ _ ⟨x, q, hq1, hq2, rfl, rfl, rfl⟩
  refine ⟨rfl, ?_⟩
  exact ⟨_, _, _, [], ⟨x, q, by omega, by omega, rfl, rfl, rfl⟩, chk_intro (by kernel_rfl) ⟨⟨rfl, rfl, rfl, rfl, trivial⟩, tellHp_box rfl rfl ⟨DLe.refl _, rfl, trivial⟩ tellHp_nil⟩⟩
theorem c_l7_13 (c : List Int) (hc : okCode c) (p : Int) (hp : 0 ≤ p) (hp2 : p ≤ 109951162) (hv : nx c (p + 1) 14 = 13) : MutS Try.prog 158 [.ptr 0 0] 1 [(0, srcBox c p)] (l7InsP c p) := by
  have c3 := c_spec_l1Next c hc p 3 (by omega) (by omega)
  have c14 := c_spec_l1Next c hc (p + 1) 14 (by omega) (by omega)
  have ci := c_spec_l2Ins c hc (p + 1 + 1) (by omega) (by omega)
  rw [hv] at c14
  refine mutS_fn_of lv158 Try.func158 rfl rfl (by kernel_rfl) rfl ?_
  refine .inr ⟨rfl, use_mut ⟨_, _, _, _, _, _, rfl, rfl, c3, rfl, ?_⟩⟩
  refine .inr ⟨rfl, use_mut ⟨_, _, _, _, _, _, rfl, rfl, c14, rfl, ?_⟩⟩
  repeat' (first | refine bsplit_true ?_ | refine bsplit_false ?_)
  refine .inr ⟨rfl, use_mutS ⟨_, _, _, _, rfl, rfl, ci, rfl, ?_⟩⟩
  rintro _ _ _ ⟨x, q, hq1, hq2, rfl, rfl, rfl⟩
  refine ⟨rfl, ?_⟩
  exact ⟨_, _, _, [], ⟨x, q, by omega, by omega, rfl, rfl, rfl⟩, chk_intro (by kernel_rfl) ⟨⟨rfl, rfl, rfl, rfl, trivial⟩, tellHp_box rfl rfl ⟨DLe.refl _, rfl, trivial⟩ tellHp_nil⟩⟩
theorem c_spec_l7Ins (c : List Int) (hc : okCode c) (p : Int) (hp : 0 ≤ p) (hp2 : p ≤ 109951162) : MutS Try.prog 158 [.ptr 0 0] 1 [(0, srcBox c p)] (l7InsP c p) := by
  have h := nx_in (c := c) hc (p := p + 1) (n := 14) (by omega) (by omega)
  by_cases h0 : nx c (p + 1) 14 = 0
  · exact c_l7_0 c hc p hp hp2 h0
  by_cases h1 : nx c (p + 1) 14 = 1
  · exact c_l7_1 c hc p hp hp2 h1
  by_cases h2 : nx c (p + 1) 14 = 2
  · exact c_l7_2 c hc p hp hp2 h2
  by_cases h3 : nx c (p + 1) 14 = 3
  · exact c_l7_3 c hc p hp hp2 h3
  by_cases h4 : nx c (p + 1) 14 = 4
  · exact c_l7_4 c hc p hp hp2 h4
  by_cases h5 : nx c (p + 1) 14 = 5
  · exact c_l7_5 c hc p hp hp2 h5
  by_cases h6 : nx c (p + 1) 14 = 6
  · exact c_l7_6 c hc p hp hp2 h6
  by_cases h7 : nx c (p + 1) 14 = 7
  · exact c_l7_7 c hc p hp hp2 h7
  by_cases h8 : nx c (p + 1) 14 = 8
  · exact c_l7_8 c hc p hp hp2 h8
  by_cases h9 : nx c (p + 1) 14 = 9
  · exact c_l7_9 c hc p hp hp2 h9
  by_cases h10 : nx c (p + 1) 14 = 10
  · exact c_l7_10 c hc p hp hp2 h10
  by_cases h11 : nx c (p + 1) 14 = 11
  · exact c_l7_11 c hc p hp hp2 h11
  by_cases h12 : nx c (p + 1) 14 = 12
  · exact c_l7_12 c hc p hp hp2 h12
  by_cases h13 : nx c (p + 1) 14 = 13
  · exact c_l7_13 c hc p hp hp2 h13
  omega
end Go.Proofs.Ytfcekiehcchebaa.L

/- What is wrong with a policy: lanes, bells, the plan: contracts. -/
set_option linter.unusedVariables false
set_option linter.unusedSimpArgs false
set_option maxRecDepth 100000
namespace Go.Proofs.Ytfcekiehcchebaa.L
open Go.RowKit
def sitsB (l : LaneM) (g p : Int) : Bool := (l.frm == g && l.af == p) || (l.to == g && l.at_ == p)
def clash (m x : LaneM) : Bool := x.page == m.page || (sitsB x m.frm m.af || sitsB x m.to m.at_)
def laneBad (own : List (List Int)) (m : LaneM) (ahead : List LaneM) : Int := if endsF own.length m.frm m.to = 0 then (bif !inR m.page 0 23 || (!inR m.af 5 6 || !inR m.at_ 5 6) then 3 else bif decide (ownerP own m.page ≥ 0) || ahead.any (clash m) then 6 else 0) else endsF own.length m.frm m.to
def bellBad (n : Nat) (b : BellM) (ahead : List BellM) : Int := if endsF n b.frm b.to = 0 then (bif ahead.any (fun a => a == b) then 6 else 0) else endsF n b.frm b.to
def slotBad (n : Nat) (s : SlotM) : Int := bif !guestB n s.guest then 4 else bif !inR s.steps 1 50 then 3 else 0
def planBad (n : Nat) (l : List SlotM) : Int := bif !inR l.length 1 8 then 2 else firstNZ (l.map (slotBad n))
end Go.Proofs.Ytfcekiehcchebaa.L

/- What is wrong with a policy: what is owned, the whole: contracts of the program. -/
set_option linter.unusedVariables false
set_option linter.unusedSimpArgs false
set_option maxRecDepth 100000
namespace Go.Proofs.Ytfcekiehcchebaa.L
open Go.RowKit
abbrev in23 (a : Int) : Bool := inR a 0 23
def rowBad (r : List Int) : Int := bif !inR r.length 1 5 then 2 else bif !r.all in23 then 3 else 0
def dupS : List Int → List Int → Bool
  | _, [] => false
  | S, x :: r => hasI S x || dupS (S ++ [x]) r
def ownBad (l : List (List Int)) : Int := bif !inR l.length 1 3 then 2 else if firstNZ (l.map rowBad) = 0 then (bif dupS [] l.flatten then 6 else 0) else firstNZ (l.map rowBad)
theorem flat_drop (l : List (List Int)) (i : Nat) (h : i < l.length) : (l.drop i).flatten = l.getD i [] ++ (l.drop (i + 1)).flatten := by
  rw [drop_consG [] l i h, List.flatten_cons]
theorem dup_step (S : List Int) (r : List Int) (k : Nat) (h : k < r.length) (rest : List Int) : dupS S (r.drop k ++ rest) = (hasI S (r.getD k 0) || dupS (S ++ [r.getD k 0]) (r.drop (k + 1) ++ rest)) := by
  rw [drop_consG 0 r k h]; rfl
theorem hasI_snoc (S : List Int) (x n : Int) : (if n = x then true else hasI S n) = hasI (S ++ [x]) n := by
  simp only [hasI, List.any_append, List.any_cons, List.any_nil, Bool.or_false]
  by_cases h : n = x
  · subst h; simp
  · rw [if_neg h, beq_eq_false_iff_ne.2 (Ne.symm h), Bool.or_false]
def lanesBad (own : List (List Int)) : List LaneM → List LaneM → Int
  | _, [] => 0
  | ahead, m :: r => if laneBad own m ahead = 0 then lanesBad own (ahead ++ [m]) r else laneBad own m ahead
def bellsBad (n : Nat) : List BellM → List BellM → Int
  | _, [] => 0
  | ahead, m :: r => if bellBad n m ahead = 0 then bellsBad n (ahead ++ [m]) r else bellBad n m ahead
def polFault (x : PolM) : Int := if ownBad x.own = 0 then (bif decide (x.lns.length > 4) || decide (x.bls.length > 4) then 2 else if lanesBad x.own [] x.lns = 0 then (if bellsBad x.own.length [] x.bls = 0 then planBad x.own.length x.pln else bellsBad x.own.length [] x.bls) else lanesBad x.own [] x.lns) else ownBad x.own
theorem take_snoc {α : Type} (d : α) (l : List α) (i : Nat) (h : i < l.length) : l.take (i + 1) = l.take i ++ [l.getD i d] := by
  rw [List.take_succ_eq_append_getElem h, getD_at d h]
theorem lanes_step (own : List (List Int)) (l : List LaneM) (i : Nat) (h : i < l.length) : lanesBad own (l.take i) (l.drop i) = if laneBad own (l.getD i ⟨0, 0, 0, 0, 0⟩) (l.take i) = 0 then lanesBad own (l.take (i + 1)) (l.drop (i + 1)) else laneBad own (l.getD i ⟨0, 0, 0, 0, 0⟩) (l.take i) := by
  rw [take_snoc ⟨0, 0, 0, 0, 0⟩ l i h, drop_consG ⟨0, 0, 0, 0, 0⟩ l i h]; rfl
theorem bells_step (n : Nat) (l : List BellM) (i : Nat) (h : i < l.length) : bellsBad n (l.take i) (l.drop i) = if bellBad n (l.getD i ⟨0, 0⟩) (l.take i) = 0 then bellsBad n (l.take (i + 1)) (l.drop (i + 1)) else bellBad n (l.getD i ⟨0, 0⟩) (l.take i) := by
  rw [take_snoc ⟨0, 0⟩ l i h, drop_consG ⟨0, 0⟩ l i h]; rfl
theorem cut_lanes (l : List LaneM) (i : Nat) (h : i ≤ l.length) : LVLe (.d (.l ((i : Int) - 0).toNat (cutF none 0 (lanesF l)))) (.d (lanes (l.take i))) := LVLe.d (DLe.l (by simp; omega) (fun j hj => by
  have hj : j < i := by simpa using hj
  show laneD (l.getD j _) = laneD ((l.take i).getD j _)
  simp [List.getD, List.getElem?_take, hj]))
theorem cut_bells (l : List BellM) (i : Nat) (h : i ≤ l.length) : LVLe (.d (.l ((i : Int) - 0).toNat (cutF none 0 (bellsF l)))) (.d (bells (l.take i))) := LVLe.d (DLe.l (by simp; omega) (fun j hj => by
  have hj : j < i := by simpa using hj
  show bellD (l.getD j _) = bellD ((l.take i).getD j _)
  simp [List.getD, List.getElem?_take, hj]))
end Go.Proofs.Ytfcekiehcchebaa.L

/- What is wrong with a policy: the reference's contracts. -/
set_option linter.unusedVariables false
set_option linter.unusedSimpArgs false
set_option maxRecDepth 100000
namespace Go.Proofs.Ytfcekiehcchebaa.L
open Go.RowKit
theorem firstNZ_all : ∀ {l : List Int}, firstNZ l = 0 → ∀ x ∈ l, x = 0
  | [], _, x, hx => by simp at hx
  | a :: l, h, x, hx => by
    simp only [firstNZ] at h
    split at h
    · rename_i ha
      rcases List.mem_cons.1 hx with rfl | hx
      · exact ha
      · exact firstNZ_all h x hx
    · rename_i ha; exact absurd h ha
theorem row_len {l : List (List Int)} (h : firstNZ (l.map rowBad) = 0) {i : Nat} (hi : i < l.length) : (l.getD i []).length ≤ 5 := by
  have h1 := firstNZ_all h (rowBad (l.getD i [])) (List.mem_map.2 ⟨_, by rw [getD_at _ hi]; exact List.getElem_mem hi, rfl⟩)
  unfold rowBad at h1
  cases hq : inR ((l.getD i []).length : Int) 1 5 with
  | true => have := (inR_iff.1 hq).2; omega
  | false => rw [hq] at h1; simp at h1
theorem upto_snoc (S : List Int) (x : Int) (g : Nat → List D) (hg : g 0 = [.v (.int .i64 x)]) (q : Nat) (hq : q < S.length + 1) : upto S.length (intsF S) g q = intsF (S ++ [x]) q := by
  unfold upto
  by_cases h : q < S.length
  · rw [if_pos h]
    show [D.v (.int .i64 (S.getD q 0))] = [D.v (.int .i64 ((S ++ [x]).getD q 0))]
    have : (S ++ [x]).getD q 0 = S.getD q 0 := by simp [List.getD, List.getElem?_append_left h]
    rw [this]
  · obtain rfl : q = S.length := by omega
    rw [if_neg h, Nat.sub_self, hg]
    show _ = [D.v (.int .i64 ((S ++ [x]).getD S.length 0))]
    have : (S ++ [x]).getD S.length 0 = x := by simp [List.getD]
    rw [this]
end Go.Proofs.Ytfcekiehcchebaa.L

/- Images drawn: contracts. -/
set_option linter.unusedVariables false
set_option linter.unusedSimpArgs false
set_option maxRecDepth 100000
namespace Go.Proofs.Ytfcekiehcchebaa.L
open Go.RowKit
def encV (x : InsM) : Int := IntKind.i64.wrap (IntKind.i64.wrap (IntKind.i64.wrap (IntKind.i64.wrap (x.op * 2 ^ min (Int.toNat 24) IntKind.i64.bits) + IntKind.i64.wrap (x.d * 2 ^ min (Int.toNat 20) IntKind.i64.bits)) + IntKind.i64.wrap (x.a * 2 ^ min (Int.toNat 16) IntKind.i64.bits)) + x.imm)
theorem c_spec_EncodeIns (x : InsM) : ∃ e v, FnOK Try.prog 157 [insLV x] (.r (irR (e, v))) := by
  have c1 := c_spec_InsFault x
  by_cases h : insFault x = 0
  · rw [h] at c1
    refine ⟨0, encV x, ?_⟩
    refine fn_of lv157 Try.func157 rfl rfl (by kernel_rfl) rfl ?_
    refine .inl ⟨_, _, rfl, c1, rfl, ?_⟩
    repeat' (first | refine bsplit_true ?_ | refine bsplit_false ?_)
    refine ask_intro (by decide) ?_
    refine ask_intro (by decide) ?_
    refine ask_intro (by decide) ?_
    exact ⟨⟨rfl, rfl, trivial⟩, rfl⟩
  · refine ⟨insFault x, 0, ?_⟩
    generalize insFault x = e at *
    refine fn_of lv157 Try.func157 rfl rfl (by kernel_rfl) rfl ?_
    refine .inl ⟨_, _, rfl, c1, rfl, ?_⟩
    refine bsplit_of_true (by simpa using h) ?_
    exact ⟨⟨rfl, rfl, trivial⟩, rfl⟩
theorem c_spec_l7Image (c : List Int) (hc : okCode c) (p n : Int) (hp : 0 ≤ p) (hp2 : p ≤ 1000000) (hn : n ≤ 1000) (hn0 : 0 ≤ n) : MutS Try.prog 146 [.ptr 0 0, di n] 1 [(0, srcBox c p)]
    (fun lv m' hp1 => ∃ (l : List Int) (q : Int), (l.length : Int) = n ∧ p ≤ q ∧ q ≤ p + 16 * n ∧ lv = .row 1 ∧ m' = 2 ∧ hp1 = [(0, srcBox c q), (1, rowE l)]) := by
  refine mutS_fn_of lv146 Try.func146 rfl rfl (by kernel_rfl) rfl ?_
  refine ⟨{ x : List Int × Int // (x.1.length : Int) ≤ n ∧ p ≤ x.2 ∧ x.2 ≤ p + 16 * x.1.length }, fun x => ⟨frL [(0, .ptr 0 0), (1, di (n - x.1.1.length)), (5, .row 11)], hpL [(0, srcBox c x.1.2), (11, rowE x.1.1)], 100, 1⟩, fun x => (n - x.1.1.length).toNat, ⟨([], p), by show ((0 : Nat) : Int) ≤ n; omega, by show p ≤ p; omega, by show p ≤ p + 16 * ((0 : Nat) : Int); omega⟩,
    le_of [(11, 4097)] rfl rfl rfl rfl (tellHp_box rfl rfl ⟨DLe.refl _, rfl, trivial⟩ (tellHp_row rfl rfl rfl (fun j hj => absurd hj (Nat.not_lt_zero _)) tellHp_nil)) (tellFr_ptr rfl rfl (tellFr_v rfl (congrArg (Value.int .i64) (show n = n - ((0 : Nat) : Int) by omega)) (tellFr_row rfl rfl trivial))), ?_⟩
  rintro ⟨⟨l, q⟩, h1, h2, h3⟩
  simp only at h1 h2 h3
  by_cases h : (l.length : Int) < n
  · have hln : ∀ w : Int, (l ++ [w]).length = l.length + 1 := fun w => by simp
    have hw : ∀ w : Int, IntKind.i64.wrap (n - (l.length : Int) - 1) = n - ((l ++ [w]).length : Int) := fun w => by rw [wrap_i64 _ (by omega) (by omega), hln]; omega
    have ci := c_spec_l7Ins c hc q (by omega) (by omega)
    refine bsplit_of_true (decide_eq_true (show n - (l.length : Int) > 0 by omega)) ?_
    refine .inr ⟨rfl, use_mutS ⟨_, _, _, _, rfl, rfl, ci, rfl, ?_⟩⟩
    rintro _ _ _ ⟨x, q1, hq1, hq2, rfl, rfl, rfl⟩
    refine ⟨rfl, ?_⟩
    obtain ⟨e, v, ce⟩ := c_spec_EncodeIns x
    have cc := c_spec_l1Chance c hc q1 20 (by omega) (by omega)
    have cw := c_spec_l1Word c hc (q1 + 1) (by omega) (by omega)
    refine .inl ⟨_, _, rfl, ce, rfl, ?_⟩
    refine .inr ⟨rfl, use_mut ⟨_, _, _, _, _, _, rfl, rfl, cc, rfl, ?_⟩⟩
    refine bsplit_intro (fun h6 => ?_) (fun h6 => ?_)
    · refine .inr ⟨rfl, use_mut ⟨_, _, _, _, _, _, rfl, rfl, cw, rfl, ?_⟩⟩
      refine ask_intro ⟨by show (l.length + 1) * 8 ≤ 140737488355328; omega, by show l.length + 1 ≤ 9223372036854775807; omega, fun j hj => by obtain rfl : j = 0 := (by omega); rfl⟩ ?_
      have hl2 := hln (wd c (q1 + 1))
      exact ⟨⟨(l ++ [wd c (q1 + 1)], q1 + 1 + 5), by show ((l ++ [wd c (q1 + 1)]).length : Int) ≤ n; omega, by show p ≤ q1 + 1 + 5; omega, by show q1 + 1 + 5 ≤ p + 16 * ((l ++ [wd c (q1 + 1)]).length : Int); omega⟩,
        le_of [(11, 16580)] rfl rfl rfl rfl (tellHp_box rfl rfl ⟨DLe.refl _, rfl, trivial⟩ (tellHp_row rfl rfl hl2.symm (fun j hj => upto_snoc l _ _ rfl j hj) tellHp_nil)) (tellFr_ptr rfl rfl (tellFr_v rfl (congrArg (Value.int .i64) (hw _)) (tellFr_row rfl rfl trivial))), by show (n - ((l ++ [wd c (q1 + 1)]).length : Int)).toNat < (n - (l.length : Int)).toNat; omega⟩
    · refine ask_intro ⟨by show (l.length + 1) * 8 ≤ 140737488355328; omega, by show l.length + 1 ≤ 9223372036854775807; omega, fun j hj => by obtain rfl : j = 0 := (by omega); rfl⟩ ?_
      have hl2 := hln v
      exact ⟨⟨(l ++ [v], q1 + 1), by show ((l ++ [v]).length : Int) ≤ n; omega, by show p ≤ q1 + 1; omega, by show q1 + 1 ≤ p + 16 * ((l ++ [v]).length : Int); omega⟩,
        le_of [(11, 12484)] rfl rfl rfl rfl (tellHp_box rfl rfl ⟨DLe.refl _, rfl, trivial⟩ (tellHp_row rfl rfl hl2.symm (fun j hj => upto_snoc l _ _ rfl j hj) tellHp_nil)) (tellFr_ptr rfl rfl (tellFr_v rfl (congrArg (Value.int .i64) (hw _)) (tellFr_row rfl rfl trivial))), by show (n - ((l ++ [v]).length : Int)).toNat < (n - (l.length : Int)).toNat; omega⟩
  · have hl : (l.length : Int) = n := by omega
    refine bsplit_of_false (decide_eq_false (show ¬ n - (l.length : Int) > 0 by omega)) ?_
    exact ⟨_, _, _, [(1, 11)], ⟨l, q, hl, h2, by omega, rfl, rfl, rfl⟩, chk_intro (by kernel_rfl) ⟨rfl, tellHp_box rfl rfl ⟨DLe.refl _, rfl, trivial⟩ (tellHp_row rfl rfl rfl (fun j hj => rfl) tellHp_nil)⟩⟩
end Go.Proofs.Ytfcekiehcchebaa.L

/- Places and kinds drawn: contracts. -/
set_option linter.unusedVariables false
set_option linter.unusedSimpArgs false
set_option maxRecDepth 100000
namespace Go.Proofs.Ytfcekiehcchebaa.L
open Go.RowKit
theorem c_spec_l4Place (c : List Int) (hc : okCode c) (p : Int) (hp : 0 ≤ p) (hp2 : p ≤ 1099511627) : MutS Try.prog 114 [.ptr 0 0] 1 [(0, srcBox c p)]
    (fun lv m' hp1 => ∃ v, lv = di v ∧ m' = 1 ∧ hp1 = [(0, srcBox c (p + 4))]) := by
  refine mutS_fn_of lv114 Try.func114 rfl rfl (by kernel_rfl) rfl ?_
  repeat' (first | refine bsplit_true ?_ | refine bsplit_false ?_ | (refine .inr ⟨rfl, use_mut ⟨?_, ?_, ?_, ?_, ?_, ?_, ?_, ?_, ?_, ?_, ?_⟩⟩; rotate_left 6; exact rfl; exact rfl; (first | (refine c_spec_l1Next c hc _ _ ?_ ?_ <;> (first | omega | (dsimp only; omega))) | (refine pick3 c hc _ _ _ _ ?_ ?_ <;> (first | omega | (dsimp only; omega))) | (refine pick4 c hc _ _ _ _ _ ?_ ?_ <;> (first | omega | (dsimp only; omega))) | (refine pick2 c hc _ _ _ ?_ ?_ <;> (first | omega | (dsimp only; omega))) | (refine pick6 c hc _ _ _ _ _ _ _ ?_ ?_ <;> (first | omega | (dsimp only; omega))) | (refine pick7 c hc _ _ _ _ _ _ _ _ ?_ ?_ <;> (first | omega | (dsimp only; omega))) | (refine pick5 c hc _ _ _ _ _ _ ?_ ?_ <;> (first | omega | (dsimp only; omega))) | (refine c_spec_l1Chance c hc _ _ ?_ ?_ <;> (first | omega | (dsimp only; omega))) | (refine c_spec_l1Word c hc _ ?_ ?_ <;> (first | omega | (dsimp only; omega)))); rfl))
  exact ⟨_, _, _, [], ⟨_, rfl, rfl, rfl⟩, chk_intro (by kernel_rfl) ⟨rfl, tellHp_box rfl rfl ⟨DLe.refl _, congrArg (Value.int .i64) (by omega), trivial⟩ tellHp_nil⟩⟩
theorem c_spec_l4DrawKind (c : List Int) (hc : okCode c) (p : Int) (hp : 0 ≤ p) (hp2 : p ≤ 1099511627) : MutS Try.prog 115 [.ptr 0 0] 1 [(0, srcBox c p)]
    (fun lv m' hp1 => ∃ v q, p ≤ q ∧ q ≤ p + 4 ∧ lv = di v ∧ m' = 1 ∧ hp1 = [(0, srcBox c q)]) := by
  refine mutS_fn_of lv115 Try.func115 rfl rfl (by kernel_rfl) rfl ?_
  repeat' (first | refine bsplit_true ?_ | refine bsplit_false ?_ | (refine .inr ⟨rfl, use_mut ⟨?_, ?_, ?_, ?_, ?_, ?_, ?_, ?_, ?_, ?_, ?_⟩⟩; rotate_left 6; exact rfl; exact rfl; (first | (refine c_spec_l1Next c hc _ _ ?_ ?_ <;> (first | omega | (dsimp only; omega))) | (refine pick3 c hc _ _ _ _ ?_ ?_ <;> (first | omega | (dsimp only; omega))) | (refine pick4 c hc _ _ _ _ _ ?_ ?_ <;> (first | omega | (dsimp only; omega))) | (refine pick2 c hc _ _ _ ?_ ?_ <;> (first | omega | (dsimp only; omega))) | (refine pick6 c hc _ _ _ _ _ _ _ ?_ ?_ <;> (first | omega | (dsimp only; omega))) | (refine pick7 c hc _ _ _ _ _ _ _ _ ?_ ?_ <;> (first | omega | (dsimp only; omega))) | (refine pick5 c hc _ _ _ _ _ _ ?_ ?_ <;> (first | omega | (dsimp only; omega))) | (refine c_spec_l1Chance c hc _ _ ?_ ?_ <;> (first | omega | (dsimp only; omega))) | (refine c_spec_l1Word c hc _ ?_ ?_ <;> (first | omega | (dsimp only; omega)))); rfl))
  exact ⟨_, _, _, [], ⟨_, _, by omega, by omega, rfl, rfl, rfl⟩, chk_intro (by kernel_rfl) ⟨rfl, tellHp_box rfl rfl ⟨DLe.refl _, rfl, trivial⟩ tellHp_nil⟩⟩
end Go.Proofs.Ytfcekiehcchebaa.L

/- A world drawn: contracts. -/
set_option linter.unusedVariables false
set_option linter.unusedSimpArgs false
set_option maxRecDepth 100000
namespace Go.Proofs.Ytfcekiehcchebaa.L
open Go.RowKit
theorem set_pageC {l : List PageM} {i : Nat} {a b : Int} (hi : i < l.length) (j : Nat) : (if j = i then splice (pagesF l j) 0 [D.v (.int .i64 a), D.v (.int .i64 b)] else pagesF l j) = pagesF (l.set i ⟨a, b⟩) j := by
  show _ = pageD ((l.set i ⟨a, b⟩).getD j ⟨0, 0⟩)
  by_cases e : j = i
  · subst e
    rw [if_pos rfl]
    simp [List.getD, hi, splice]
  · rw [if_neg e]
    show pageD (l.getD j ⟨0, 0⟩) = _
    simp [List.getD, List.getElem?_set_ne (Ne.symm e)]
set_option maxHeartbeats 12800000 in
theorem c_spec_l10World (c : List Int) (hc : okCode c) : MutS Try.prog 113 [.ptr 0 0] 1 [(0, srcBox c 0)]
    (fun lv m' hp1 => ∃ (m : HartM) (l : List PageM) (mem : List Int) (q : Int) (L : LV), m.small ∧ m.few ∧ l.length = 8 ∧ mem.length ≤ 1000 ∧ 0 ≤ q ∧ q ≤ 5000 ∧ (L = .row 1 ∨ L = .sub 1 2 1 8) ∧ lv = .tup [hartLV m, L, .d (ints mem)] ∧ m' = 2 ∧ hp1 = [(0, srcBox c q), (1, rowP l)]) := by
  have c6 := c_spec_NewMemory 6 (by omega) (by omega)
  refine mutS_fn_of lv113 Try.func113 rfl rfl (by kernel_rfl) rfl ?_
  refine .inr ⟨rfl, use_mutS ⟨_, _, _, _, rfl, rfl, c_spec_l8BentK c hc 0 (by omega) (by omega), rfl, ?_⟩⟩
  rintro _ _ _ ⟨m, q, hs, hf, hq1, hq2, h11, rfl, rfl, rfl⟩
  have hs2 : ({ m with csr := m.csr.set 10 2 } : HartM).small ∧ ({ m with csr := m.csr.set 10 2 } : HartM).few := by
    obtain ⟨a1, a2, a3, a4⟩ := hs
    obtain ⟨b1, b2, b3, b4⟩ := hf
    exact ⟨⟨a1, by simpa using a2, a3, a4⟩, ⟨b1, by simpa using b2, b3, b4⟩⟩
  refine ⟨rfl, ?_⟩
  refine .inr ⟨rfl, use_mutS ⟨_, _, _, _, rfl, rfl, c_spec_l4BentK c hc q 6 (by omega) (by omega) (by omega), rfl, ?_⟩⟩
  rintro _ _ _ ⟨l, q1, hl, hr1, hr2, hL, rfl, rfl⟩
  rcases hL with rfl | rfl
  · refine ⟨rfl, ?_⟩
    have cc := c_spec_l1Chance c hc q1 3 (by omega) (by omega)
    refine .inr ⟨rfl, use_mut ⟨_, _, _, _, _, _, rfl, rfl, cc, rfl, ?_⟩⟩
    refine bsplit_intro (fun h6 => ?_) (fun h6 => ?_)
    · refine ⟨{ x : List PageM × Nat // x.1.length = 8 ∧ x.2 ≤ 5 }, fun x => ⟨frL [(0, .ptr 0 0), (2, .ptr 10 0), (5, .ptr 11 0), (6, .row 12), (7, di x.1.2)], hpL [(0, srcBox c (q1 + 1)), (10, .box 30 [.d (.v (.slice none 0 0)), di 0, .d (.v (.slice none 0 0)), dv (.bool false), dv (.bool false), dv (.bool false), di 0, .d (.v (.slice none 0 0)), .d (.v (.slice none 0 0))]), (11, .box 30 [.d (ints m.regs), di m.pc, .row 13, dv (.bool m.halted), dv (.bool m.waiting), dv (.bool m.rung), di m.done, .d (ints m.inp), .d (ints m.out)]), (12, rowP x.1.1), (13, rowE m.csr)], 100, 1⟩, fun x => 5 - x.1.2, ⟨(l, 0), hl, Nat.zero_le _⟩,
        le_of [(10, 1), (11, 4161), (12, 8225), (13, 4129)] rfl rfl rfl rfl (tellHp_box rfl rfl ⟨DLe.refl _, rfl, trivial⟩ (tellHp_box rfl rfl ⟨rfl, rfl, rfl, rfl, rfl, rfl, rfl, rfl, rfl, trivial⟩ (tellHp_box rfl rfl ⟨DLe.refl _, rfl, rfl, rfl, rfl, rfl, rfl, DLe.refl _, DLe.refl _, trivial⟩ (tellHp_row rfl rfl rfl (fun j hj => rfl) (tellHp_row rfl rfl rfl (fun j hj => rfl) tellHp_nil))))) (tellFr_ptr rfl rfl (tellFr_ptr rfl rfl (tellFr_ptr rfl rfl (tellFr_row rfl rfl (tellFr_v rfl rfl trivial))))), ?_⟩
      rintro ⟨⟨l, k⟩, hl, hk⟩
      simp only at hl hk
      by_cases h : k < 5
      · have hwk := congrArg (Value.int .i64) (wrap1 h (by omega))
        have hmm : Int.tmod (k : Int) (l.length : Int) = (k : Int) := by rw [Int.tmod_eq_emod_of_nonneg (by omega)]; (try rw [hl]); omega
        have hix : (Int.tmod (k : Int) (l.length : Int)).toNat < l.length := by omega
        refine bsplit_of_true (decide_eq_true (show (k : Int) < 5 by omega)) ?_
        refine ask_intro (show (l.length : Int) ≠ 0 by omega) ?_
        refine ask_intro ⟨by show 0 ≤ Int.tmod (k : Int) (l.length : Int); omega, by show Int.tmod (k : Int) (l.length : Int) < (l.length : Int); omega⟩ ?_
        refine ask_intro (by show (Int.tmod (k : Int) (l.length : Int)).toNat < l.length; omega) ?_
        exact ⟨⟨(l.set (Int.tmod (k : Int) (l.length : Int)).toNat ⟨(k : Int), 7⟩, k + 1), by show (l.set _ _).length = 8; rw [List.length_set]; exact hl, by show k + 1 ≤ 5; omega⟩,
          le_of [(10, 10), (11, 11), (12, 12), (13, 13)] rfl rfl rfl rfl (tellHp_box rfl rfl ⟨DLe.refl _, rfl, trivial⟩ (tellHp_box rfl rfl ⟨rfl, rfl, rfl, rfl, rfl, rfl, rfl, rfl, rfl, trivial⟩ (tellHp_box rfl rfl ⟨DLe.refl _, rfl, rfl, rfl, rfl, rfl, rfl, DLe.refl _, DLe.refl _, trivial⟩ (tellHp_row rfl rfl (show l.length = (l.set (Int.tmod (k : Int) (l.length : Int)).toNat ⟨(k : Int), 7⟩).length by rw [List.length_set]) (fun j hj => set_pageC hix j) (tellHp_row rfl rfl rfl (fun j hj => rfl) tellHp_nil))))) (tellFr_ptr rfl rfl (tellFr_ptr rfl rfl (tellFr_ptr rfl rfl (tellFr_row rfl rfl (tellFr_v rfl hwk trivial))))), by show 5 - (k + 1) < 5 - k; omega⟩
      · obtain rfl : k = 5 := by omega
        refine bsplit_of_false (decide_eq_false (show ¬ ((5 : Nat) : Int) < 5 by omega)) ?_
        refine .inl ⟨_, _, rfl, c6, rfl, ?_⟩
        refine .inr ⟨rfl, use_mutS ⟨_, _, _, _, rfl, rfl, c_spec_l7Image c hc (q1 + 1) 40 (by omega) (by omega) (by omega) (by omega), rfl, ?_⟩⟩
        rintro _ _ _ ⟨img, q3, hi1, hi2, hi3, rfl, rfl, rfl⟩
        refine ⟨rfl, ?_⟩
        refine ⟨{ x : List Int × Nat // x.1.length = 48 ∧ x.2 ≤ 40 }, fun x => ⟨frL [(0, .ptr 0 0), (2, .ptr 10 0), (5, .ptr 11 0), (6, .row 12), (8, .row 15), (9, .row 14), (10, di x.1.2)], hpL [(0, srcBox c (q3)), (10, .box 30 [.d (.v (.slice none 0 0)), di 0, .d (.v (.slice none 0 0)), dv (.bool false), dv (.bool false), dv (.bool false), di 0, .d (.v (.slice none 0 0)), .d (.v (.slice none 0 0))]), (11, .box 30 [.d (ints m.regs), di m.pc, .row 13, dv (.bool m.halted), dv (.bool m.waiting), dv (.bool m.rung), di m.done, .d (ints m.inp), .d (ints m.out)]), (12, rowP l), (13, rowE m.csr), (14, rowE img), (15, rowE x.1.1)], 100, 1⟩, fun x => 40 - x.1.2, ⟨(List.replicate (8 * (6 : Int).toNat) 0, 0), by rw [List.length_replicate]; rfl, Nat.zero_le _⟩,
          le_of [(10, 10), (11, 11), (12, 12), (13, 13), (14, 8324), (15, 4197)] rfl rfl rfl rfl (tellHp_box rfl rfl ⟨DLe.refl _, rfl, trivial⟩ (tellHp_box rfl rfl ⟨rfl, rfl, rfl, rfl, rfl, rfl, rfl, rfl, rfl, trivial⟩ (tellHp_box rfl rfl ⟨DLe.refl _, rfl, rfl, rfl, rfl, rfl, rfl, DLe.refl _, DLe.refl _, trivial⟩ (tellHp_row rfl rfl rfl (fun j hj => rfl) (tellHp_row rfl rfl rfl (fun j hj => rfl) (tellHp_row rfl rfl rfl (fun j hj => rfl) (tellHp_row rfl rfl rfl (fun j hj => rfl) tellHp_nil))))))) (tellFr_ptr rfl rfl (tellFr_ptr rfl rfl (tellFr_ptr rfl rfl (tellFr_row rfl rfl (tellFr_row rfl rfl (tellFr_row rfl rfl (tellFr_v rfl rfl trivial))))))), ?_⟩
        rintro ⟨⟨mem, i⟩, hM, hi⟩
        simp only at hM hi
        by_cases h : i < 40
        · have hwi := congrArg (Value.int .i64) (wrap1 h (by omega))
          refine bsplit_of_true (decide_eq_true (show (i : Int) < (img.length : Int) by omega)) ?_
          refine ask_intro ⟨by omega, by show (i : Int) < (img.length : Int); omega⟩ ?_
          refine ask_intro (by show i < img.length; omega) ?_
          refine ask_intro ⟨by omega, by show (i : Int) < (mem.length : Int); omega⟩ ?_
          refine ask_intro (by show i < mem.length; omega) ?_
          exact ⟨⟨(mem.set i (img.getD i 0), i + 1), by show (mem.set i _).length = 48; rw [List.length_set]; exact hM, by show i + 1 ≤ 40; omega⟩,
            le_of [(10, 10), (11, 11), (12, 12), (13, 13), (14, 14), (15, 15)] rfl rfl rfl rfl (tellHp_box rfl rfl ⟨DLe.refl _, rfl, trivial⟩ (tellHp_box rfl rfl ⟨rfl, rfl, rfl, rfl, rfl, rfl, rfl, rfl, rfl, trivial⟩ (tellHp_box rfl rfl ⟨DLe.refl _, rfl, rfl, rfl, rfl, rfl, rfl, DLe.refl _, DLe.refl _, trivial⟩ (tellHp_row rfl rfl rfl (fun j hj => rfl) (tellHp_row rfl rfl rfl (fun j hj => rfl) (tellHp_row rfl rfl rfl (fun j hj => rfl) (tellHp_row rfl rfl (show mem.length = (mem.set i (img.getD i 0)).length by rw [List.length_set]) (fun j hj => set_at (l := mem) (i := i) rfl (by omega)) tellHp_nil))))))) (tellFr_ptr rfl rfl (tellFr_ptr rfl rfl (tellFr_ptr rfl rfl (tellFr_row rfl rfl (tellFr_row rfl rfl (tellFr_row rfl rfl (tellFr_v rfl hwi trivial))))))), by show 40 - (i + 1) < 40 - i; omega⟩
        · obtain rfl : i = 40 := by omega
          refine bsplit_of_false (decide_eq_false (show ¬ ((40 : Nat) : Int) < (img.length : Int) by omega)) ?_
          have cy := c_spec_l1Chance c hc q3 4 (by omega) (by omega)
          refine .inr ⟨rfl, use_mut ⟨_, _, _, _, _, _, rfl, rfl, cy, rfl, ?_⟩⟩
          refine bsplit_intro (fun h8 => ?_) (fun h8 => ?_)
          · refine ⟨{ x : List Int × Nat × Int // x.1.length = 48 ∧ x.2.1 ≤ 8 ∧ q3 + 1 ≤ x.2.2 ∧ x.2.2 ≤ q3 + 1 + 2 * x.2.1 }, fun x => ⟨frL [(0, .ptr 0 0), (2, .ptr 10 0), (5, .ptr 11 0), (6, .row 12), (8, .row 15), (11, di x.1.2.1)], hpL [(0, srcBox c (x.1.2.2)), (10, .box 30 [.d (.v (.slice none 0 0)), di 0, .d (.v (.slice none 0 0)), dv (.bool false), dv (.bool false), dv (.bool false), di 0, .d (.v (.slice none 0 0)), .d (.v (.slice none 0 0))]), (11, .box 30 [.d (ints m.regs), di m.pc, .row 13, dv (.bool m.halted), dv (.bool m.waiting), dv (.bool m.rung), di m.done, .d (ints m.inp), .d (ints m.out)]), (12, rowP l), (13, rowE m.csr), (15, rowE x.1.1)], 100, 1⟩, fun x => 8 - x.1.2.1, ⟨(mem, 0, q3 + 1), hM, Nat.zero_le _, by show q3 + 1 ≤ q3 + 1; omega, by show q3 + 1 ≤ q3 + 1 + 2 * ((0 : Nat) : Int); omega⟩,
              le_of [(10, 10), (11, 11), (12, 12), (13, 13), (15, 15)] rfl rfl rfl rfl (tellHp_box rfl rfl ⟨DLe.refl _, rfl, trivial⟩ (tellHp_box rfl rfl ⟨rfl, rfl, rfl, rfl, rfl, rfl, rfl, rfl, rfl, trivial⟩ (tellHp_box rfl rfl ⟨DLe.refl _, rfl, rfl, rfl, rfl, rfl, rfl, DLe.refl _, DLe.refl _, trivial⟩ (tellHp_row rfl rfl rfl (fun j hj => rfl) (tellHp_row rfl rfl rfl (fun j hj => rfl) (tellHp_row rfl rfl rfl (fun j hj => rfl) tellHp_nil)))))) (tellFr_ptr rfl rfl (tellFr_ptr rfl rfl (tellFr_ptr rfl rfl (tellFr_row rfl rfl (tellFr_row rfl rfl (tellFr_v rfl rfl trivial)))))), ?_⟩
            rintro ⟨⟨mem, k, q⟩, hM, hk, hq5, hq6⟩
            simp only at hM hk hq5 hq6
            by_cases hk8 : k < 8
            · have hwk := congrArg (Value.int .i64) (wrap1 hk8 (by omega))
              have hw8 : IntKind.i64.wrap (8 + (k : Int)) = 8 + (k : Int) := wrap_i64 _ (by omega) (by omega)
              have ca := c_spec_l1Next c hc q 9 (by omega) (by omega)
              have cb := c_spec_l1Next c hc (q + 1) 8 (by omega) (by omega)
              refine bsplit_of_true (decide_eq_true (show (k : Int) < 8 by omega)) ?_
              refine .inr ⟨rfl, use_mut ⟨_, _, _, _, _, _, rfl, rfl, ca, rfl, ?_⟩⟩
              refine .inr ⟨rfl, use_mut ⟨_, _, _, _, _, _, rfl, rfl, cb, rfl, ?_⟩⟩
              refine ask_intro ⟨by show 0 ≤ IntKind.i64.wrap (8 + (k : Int)); omega, by show IntKind.i64.wrap (8 + (k : Int)) < (mem.length : Int); omega⟩ ?_
              refine ask_intro (by show (IntKind.i64.wrap (8 + (k : Int))).toNat < mem.length; omega) ?_
              exact ⟨⟨(mem.set (IntKind.i64.wrap (8 + (k : Int))).toNat (IntKind.i64.wrap (IntKind.i64.wrap (8 * nx c q 9) + nx c (q + 1) 8)), k + 1, q + 1 + 1), by show (mem.set _ _).length = 48; rw [List.length_set]; exact hM, by show k + 1 ≤ 8; omega, by show q3 + 1 ≤ q + 1 + 1; omega, by show q + 1 + 1 ≤ q3 + 1 + 2 * ((k + 1 : Nat) : Int); omega⟩,
                le_of [(10, 10), (11, 11), (12, 12), (13, 13), (15, 15)] rfl rfl rfl rfl (tellHp_box rfl rfl ⟨DLe.refl _, rfl, trivial⟩ (tellHp_box rfl rfl ⟨rfl, rfl, rfl, rfl, rfl, rfl, rfl, rfl, rfl, trivial⟩ (tellHp_box rfl rfl ⟨DLe.refl _, rfl, rfl, rfl, rfl, rfl, rfl, DLe.refl _, DLe.refl _, trivial⟩ (tellHp_row rfl rfl rfl (fun j hj => rfl) (tellHp_row rfl rfl rfl (fun j hj => rfl) (tellHp_row rfl rfl (show mem.length = (mem.set (IntKind.i64.wrap (8 + (k : Int))).toNat (IntKind.i64.wrap (IntKind.i64.wrap (8 * nx c q 9) + nx c (q + 1) 8))).length by rw [List.length_set]) (fun j hj => set_at (l := mem) (i := (IntKind.i64.wrap (8 + (k : Int))).toNat) rfl (by omega)) tellHp_nil)))))) (tellFr_ptr rfl rfl (tellFr_ptr rfl rfl (tellFr_ptr rfl rfl (tellFr_row rfl rfl (tellFr_row rfl rfl (tellFr_v rfl hwk trivial)))))), by show 8 - (k + 1) < 8 - k; omega⟩
            · obtain rfl : k = 8 := by omega
              refine bsplit_of_false (decide_eq_false (show ¬ ((8 : Nat) : Int) < 8 by omega)) ?_
              refine bsplit_of_true (show ((m.csr.length : Int) == 11) = true by rw [h11]; rfl) ?_
              refine ask_intro ⟨by omega, by show (10 : Int) < (m.csr.length : Int); omega⟩ ?_
              refine ask_intro (by show 10 < m.csr.length; omega) ?_
              have cz := c_spec_l1Chance c hc (q) 20 (by omega) (by omega)
              refine .inr ⟨rfl, use_mut ⟨_, _, _, _, _, _, rfl, rfl, cz, rfl, ?_⟩⟩
              refine bsplit_intro (fun h9 => ?_) (fun h9 => ?_)
              · refine .inr ⟨rfl, use_mutS ⟨_, _, _, _, rfl, rfl, c_spec_l3Memory c hc (q + 1) (by omega) (by omega), rfl, ?_⟩⟩
                rintro _ _ _ ⟨lm, qm, hm1, hm2, hm3, rfl, rfl, rfl⟩
                refine ⟨rfl, ?_⟩
                exact ⟨_, _, _, [(1, 12)], ⟨{ m with csr := m.csr.set 10 2 }, l, lm, qm, _, hs2.1, hs2.2, hl, by omega, by omega, by omega, .inl rfl, rfl, rfl, rfl⟩,
                  chk_intro (by kernel_rfl) ⟨⟨⟨DLe.refl _, rfl, tellV_frz rfl rfl rfl (DLe.l (show m.csr.length = (m.csr.set 10 2).length by rw [List.length_set]) (fun j hj => set_at (l := m.csr) (i := 10) rfl (by omega))), rfl, rfl, rfl, rfl, DLe.refl _, DLe.refl _, trivial⟩, rfl, DLe.refl _, trivial⟩, tellHp_box rfl rfl ⟨DLe.refl _, rfl, trivial⟩ (tellHp_row rfl rfl rfl (fun j hj => rfl) tellHp_nil)⟩⟩
              · skip
                exact ⟨_, _, _, [(1, 12)], ⟨{ m with csr := m.csr.set 10 2 }, l, mem, q + 1, _, hs2.1, hs2.2, hl, by omega, by omega, by omega, .inl rfl, rfl, rfl, rfl⟩,
                  chk_intro (by kernel_rfl) ⟨⟨⟨DLe.refl _, rfl, tellV_frz rfl rfl rfl (DLe.l (show m.csr.length = (m.csr.set 10 2).length by rw [List.length_set]) (fun j hj => set_at (l := m.csr) (i := 10) rfl (by omega))), rfl, rfl, rfl, rfl, DLe.refl _, DLe.refl _, trivial⟩, rfl, tellV_frz rfl rfl rfl (DLe.refl _), trivial⟩, tellHp_box rfl rfl ⟨DLe.refl _, rfl, trivial⟩ (tellHp_row rfl rfl rfl (fun j hj => rfl) tellHp_nil)⟩⟩
          · skip
            have cz := c_spec_l1Chance c hc (q3 + 1) 20 (by omega) (by omega)
            refine .inr ⟨rfl, use_mut ⟨_, _, _, _, _, _, rfl, rfl, cz, rfl, ?_⟩⟩
            refine bsplit_intro (fun h9 => ?_) (fun h9 => ?_)
            · refine .inr ⟨rfl, use_mutS ⟨_, _, _, _, rfl, rfl, c_spec_l3Memory c hc (q3 + 1 + 1) (by omega) (by omega), rfl, ?_⟩⟩
              rintro _ _ _ ⟨lm, qm, hm1, hm2, hm3, rfl, rfl, rfl⟩
              refine ⟨rfl, ?_⟩
              exact ⟨_, _, _, [(1, 12)], ⟨m, l, lm, qm, _, hs, hf, hl, by omega, by omega, by omega, .inl rfl, rfl, rfl, rfl⟩,
                chk_intro (by kernel_rfl) ⟨⟨⟨DLe.refl _, rfl, tellV_frz rfl rfl rfl (DLe.refl _), rfl, rfl, rfl, rfl, DLe.refl _, DLe.refl _, trivial⟩, rfl, DLe.refl _, trivial⟩, tellHp_box rfl rfl ⟨DLe.refl _, rfl, trivial⟩ (tellHp_row rfl rfl rfl (fun j hj => rfl) tellHp_nil)⟩⟩
            · skip
              exact ⟨_, _, _, [(1, 12)], ⟨m, l, mem, q3 + 1 + 1, _, hs, hf, hl, by omega, by omega, by omega, .inl rfl, rfl, rfl, rfl⟩,
                chk_intro (by kernel_rfl) ⟨⟨⟨DLe.refl _, rfl, tellV_frz rfl rfl rfl (DLe.refl _), rfl, rfl, rfl, rfl, DLe.refl _, DLe.refl _, trivial⟩, rfl, tellV_frz rfl rfl rfl (DLe.refl _), trivial⟩, tellHp_box rfl rfl ⟨DLe.refl _, rfl, trivial⟩ (tellHp_row rfl rfl rfl (fun j hj => rfl) tellHp_nil)⟩⟩
    · skip
      refine .inl ⟨_, _, rfl, c6, rfl, ?_⟩
      refine .inr ⟨rfl, use_mutS ⟨_, _, _, _, rfl, rfl, c_spec_l7Image c hc (q1 + 1) 40 (by omega) (by omega) (by omega) (by omega), rfl, ?_⟩⟩
      rintro _ _ _ ⟨img, q3, hi1, hi2, hi3, rfl, rfl, rfl⟩
      refine ⟨rfl, ?_⟩
      refine ⟨{ x : List Int × Nat // x.1.length = 48 ∧ x.2 ≤ 40 }, fun x => ⟨frL [(0, .ptr 0 0), (2, .ptr 10 0), (5, .ptr 11 0), (6, .row 12), (8, .row 15), (9, .row 14), (10, di x.1.2)], hpL [(0, srcBox c (q3)), (10, .box 30 [.d (.v (.slice none 0 0)), di 0, .d (.v (.slice none 0 0)), dv (.bool false), dv (.bool false), dv (.bool false), di 0, .d (.v (.slice none 0 0)), .d (.v (.slice none 0 0))]), (11, .box 30 [.d (ints m.regs), di m.pc, .row 13, dv (.bool m.halted), dv (.bool m.waiting), dv (.bool m.rung), di m.done, .d (ints m.inp), .d (ints m.out)]), (12, rowP l), (13, rowE m.csr), (14, rowE img), (15, rowE x.1.1)], 100, 1⟩, fun x => 40 - x.1.2, ⟨(List.replicate (8 * (6 : Int).toNat) 0, 0), by rw [List.length_replicate]; rfl, Nat.zero_le _⟩,
        le_of [(10, 1), (11, 4161), (12, 8225), (13, 4129), (14, 20513), (15, 16386)] rfl rfl rfl rfl (tellHp_box rfl rfl ⟨DLe.refl _, rfl, trivial⟩ (tellHp_box rfl rfl ⟨rfl, rfl, rfl, rfl, rfl, rfl, rfl, rfl, rfl, trivial⟩ (tellHp_box rfl rfl ⟨DLe.refl _, rfl, rfl, rfl, rfl, rfl, rfl, DLe.refl _, DLe.refl _, trivial⟩ (tellHp_row rfl rfl rfl (fun j hj => rfl) (tellHp_row rfl rfl rfl (fun j hj => rfl) (tellHp_row rfl rfl rfl (fun j hj => rfl) (tellHp_row rfl rfl rfl (fun j hj => rfl) tellHp_nil))))))) (tellFr_ptr rfl rfl (tellFr_ptr rfl rfl (tellFr_ptr rfl rfl (tellFr_row rfl rfl (tellFr_row rfl rfl (tellFr_row rfl rfl (tellFr_v rfl rfl trivial))))))), ?_⟩
      rintro ⟨⟨mem, i⟩, hM, hi⟩
      simp only at hM hi
      by_cases h : i < 40
      · have hwi := congrArg (Value.int .i64) (wrap1 h (by omega))
        refine bsplit_of_true (decide_eq_true (show (i : Int) < (img.length : Int) by omega)) ?_
        refine ask_intro ⟨by omega, by show (i : Int) < (img.length : Int); omega⟩ ?_
        refine ask_intro (by show i < img.length; omega) ?_
        refine ask_intro ⟨by omega, by show (i : Int) < (mem.length : Int); omega⟩ ?_
        refine ask_intro (by show i < mem.length; omega) ?_
        exact ⟨⟨(mem.set i (img.getD i 0), i + 1), by show (mem.set i _).length = 48; rw [List.length_set]; exact hM, by show i + 1 ≤ 40; omega⟩,
          le_of [(10, 10), (11, 11), (12, 12), (13, 13), (14, 14), (15, 15)] rfl rfl rfl rfl (tellHp_box rfl rfl ⟨DLe.refl _, rfl, trivial⟩ (tellHp_box rfl rfl ⟨rfl, rfl, rfl, rfl, rfl, rfl, rfl, rfl, rfl, trivial⟩ (tellHp_box rfl rfl ⟨DLe.refl _, rfl, rfl, rfl, rfl, rfl, rfl, DLe.refl _, DLe.refl _, trivial⟩ (tellHp_row rfl rfl rfl (fun j hj => rfl) (tellHp_row rfl rfl rfl (fun j hj => rfl) (tellHp_row rfl rfl rfl (fun j hj => rfl) (tellHp_row rfl rfl (show mem.length = (mem.set i (img.getD i 0)).length by rw [List.length_set]) (fun j hj => set_at (l := mem) (i := i) rfl (by omega)) tellHp_nil))))))) (tellFr_ptr rfl rfl (tellFr_ptr rfl rfl (tellFr_ptr rfl rfl (tellFr_row rfl rfl (tellFr_row rfl rfl (tellFr_row rfl rfl (tellFr_v rfl hwi trivial))))))), by show 40 - (i + 1) < 40 - i; omega⟩
      · obtain rfl : i = 40 := by omega
        refine bsplit_of_false (decide_eq_false (show ¬ ((40 : Nat) : Int) < (img.length : Int) by omega)) ?_
        have cy := c_spec_l1Chance c hc q3 4 (by omega) (by omega)
        refine .inr ⟨rfl, use_mut ⟨_, _, _, _, _, _, rfl, rfl, cy, rfl, ?_⟩⟩
        refine bsplit_intro (fun h8 => ?_) (fun h8 => ?_)
        · refine ⟨{ x : List Int × Nat × Int // x.1.length = 48 ∧ x.2.1 ≤ 8 ∧ q3 + 1 ≤ x.2.2 ∧ x.2.2 ≤ q3 + 1 + 2 * x.2.1 }, fun x => ⟨frL [(0, .ptr 0 0), (2, .ptr 10 0), (5, .ptr 11 0), (6, .row 12), (8, .row 15), (11, di x.1.2.1)], hpL [(0, srcBox c (x.1.2.2)), (10, .box 30 [.d (.v (.slice none 0 0)), di 0, .d (.v (.slice none 0 0)), dv (.bool false), dv (.bool false), dv (.bool false), di 0, .d (.v (.slice none 0 0)), .d (.v (.slice none 0 0))]), (11, .box 30 [.d (ints m.regs), di m.pc, .row 13, dv (.bool m.halted), dv (.bool m.waiting), dv (.bool m.rung), di m.done, .d (ints m.inp), .d (ints m.out)]), (12, rowP l), (13, rowE m.csr), (15, rowE x.1.1)], 100, 1⟩, fun x => 8 - x.1.2.1, ⟨(mem, 0, q3 + 1), hM, Nat.zero_le _, by show q3 + 1 ≤ q3 + 1; omega, by show q3 + 1 ≤ q3 + 1 + 2 * ((0 : Nat) : Int); omega⟩,
            le_of [(10, 10), (11, 11), (12, 12), (13, 13), (15, 15)] rfl rfl rfl rfl (tellHp_box rfl rfl ⟨DLe.refl _, rfl, trivial⟩ (tellHp_box rfl rfl ⟨rfl, rfl, rfl, rfl, rfl, rfl, rfl, rfl, rfl, trivial⟩ (tellHp_box rfl rfl ⟨DLe.refl _, rfl, rfl, rfl, rfl, rfl, rfl, DLe.refl _, DLe.refl _, trivial⟩ (tellHp_row rfl rfl rfl (fun j hj => rfl) (tellHp_row rfl rfl rfl (fun j hj => rfl) (tellHp_row rfl rfl rfl (fun j hj => rfl) tellHp_nil)))))) (tellFr_ptr rfl rfl (tellFr_ptr rfl rfl (tellFr_ptr rfl rfl (tellFr_row rfl rfl (tellFr_row rfl rfl (tellFr_v rfl rfl trivial)))))), ?_⟩
          rintro ⟨⟨mem, k, q⟩, hM, hk, hq5, hq6⟩
          simp only at hM hk hq5 hq6
          by_cases hk8 : k < 8
          · have hwk := congrArg (Value.int .i64) (wrap1 hk8 (by omega))
            have hw8 : IntKind.i64.wrap (8 + (k : Int)) = 8 + (k : Int) := wrap_i64 _ (by omega) (by omega)
            have ca := c_spec_l1Next c hc q 9 (by omega) (by omega)
            have cb := c_spec_l1Next c hc (q + 1) 8 (by omega) (by omega)
            refine bsplit_of_true (decide_eq_true (show (k : Int) < 8 by omega)) ?_
            refine .inr ⟨rfl, use_mut ⟨_, _, _, _, _, _, rfl, rfl, ca, rfl, ?_⟩⟩
            refine .inr ⟨rfl, use_mut ⟨_, _, _, _, _, _, rfl, rfl, cb, rfl, ?_⟩⟩
            refine ask_intro ⟨by show 0 ≤ IntKind.i64.wrap (8 + (k : Int)); omega, by show IntKind.i64.wrap (8 + (k : Int)) < (mem.length : Int); omega⟩ ?_
            refine ask_intro (by show (IntKind.i64.wrap (8 + (k : Int))).toNat < mem.length; omega) ?_
            exact ⟨⟨(mem.set (IntKind.i64.wrap (8 + (k : Int))).toNat (IntKind.i64.wrap (IntKind.i64.wrap (8 * nx c q 9) + nx c (q + 1) 8)), k + 1, q + 1 + 1), by show (mem.set _ _).length = 48; rw [List.length_set]; exact hM, by show k + 1 ≤ 8; omega, by show q3 + 1 ≤ q + 1 + 1; omega, by show q + 1 + 1 ≤ q3 + 1 + 2 * ((k + 1 : Nat) : Int); omega⟩,
              le_of [(10, 10), (11, 11), (12, 12), (13, 13), (15, 15)] rfl rfl rfl rfl (tellHp_box rfl rfl ⟨DLe.refl _, rfl, trivial⟩ (tellHp_box rfl rfl ⟨rfl, rfl, rfl, rfl, rfl, rfl, rfl, rfl, rfl, trivial⟩ (tellHp_box rfl rfl ⟨DLe.refl _, rfl, rfl, rfl, rfl, rfl, rfl, DLe.refl _, DLe.refl _, trivial⟩ (tellHp_row rfl rfl rfl (fun j hj => rfl) (tellHp_row rfl rfl rfl (fun j hj => rfl) (tellHp_row rfl rfl (show mem.length = (mem.set (IntKind.i64.wrap (8 + (k : Int))).toNat (IntKind.i64.wrap (IntKind.i64.wrap (8 * nx c q 9) + nx c (q + 1) 8))).length by rw [List.length_set]) (fun j hj => set_at (l := mem) (i := (IntKind.i64.wrap (8 + (k : Int))).toNat) rfl (by omega)) tellHp_nil)))))) (tellFr_ptr rfl rfl (tellFr_ptr rfl rfl (tellFr_ptr rfl rfl (tellFr_row rfl rfl (tellFr_row rfl rfl (tellFr_v rfl hwk trivial)))))), by show 8 - (k + 1) < 8 - k; omega⟩
          · obtain rfl : k = 8 := by omega
            refine bsplit_of_false (decide_eq_false (show ¬ ((8 : Nat) : Int) < 8 by omega)) ?_
            refine bsplit_of_true (show ((m.csr.length : Int) == 11) = true by rw [h11]; rfl) ?_
            refine ask_intro ⟨by omega, by show (10 : Int) < (m.csr.length : Int); omega⟩ ?_
            refine ask_intro (by show 10 < m.csr.length; omega) ?_
            have cz := c_spec_l1Chance c hc (q) 20 (by omega) (by omega)
            refine .inr ⟨rfl, use_mut ⟨_, _, _, _, _, _, rfl, rfl, cz, rfl, ?_⟩⟩
            refine bsplit_intro (fun h9 => ?_) (fun h9 => ?_)
            · refine .inr ⟨rfl, use_mutS ⟨_, _, _, _, rfl, rfl, c_spec_l3Memory c hc (q + 1) (by omega) (by omega), rfl, ?_⟩⟩
              rintro _ _ _ ⟨lm, qm, hm1, hm2, hm3, rfl, rfl, rfl⟩
              refine ⟨rfl, ?_⟩
              exact ⟨_, _, _, [(1, 12)], ⟨{ m with csr := m.csr.set 10 2 }, l, lm, qm, _, hs2.1, hs2.2, hl, by omega, by omega, by omega, .inl rfl, rfl, rfl, rfl⟩,
                chk_intro (by kernel_rfl) ⟨⟨⟨DLe.refl _, rfl, tellV_frz rfl rfl rfl (DLe.l (show m.csr.length = (m.csr.set 10 2).length by rw [List.length_set]) (fun j hj => set_at (l := m.csr) (i := 10) rfl (by omega))), rfl, rfl, rfl, rfl, DLe.refl _, DLe.refl _, trivial⟩, rfl, DLe.refl _, trivial⟩, tellHp_box rfl rfl ⟨DLe.refl _, rfl, trivial⟩ (tellHp_row rfl rfl rfl (fun j hj => rfl) tellHp_nil)⟩⟩
            · skip
              exact ⟨_, _, _, [(1, 12)], ⟨{ m with csr := m.csr.set 10 2 }, l, mem, q + 1, _, hs2.1, hs2.2, hl, by omega, by omega, by omega, .inl rfl, rfl, rfl, rfl⟩,
                chk_intro (by kernel_rfl) ⟨⟨⟨DLe.refl _, rfl, tellV_frz rfl rfl rfl (DLe.l (show m.csr.length = (m.csr.set 10 2).length by rw [List.length_set]) (fun j hj => set_at (l := m.csr) (i := 10) rfl (by omega))), rfl, rfl, rfl, rfl, DLe.refl _, DLe.refl _, trivial⟩, rfl, tellV_frz rfl rfl rfl (DLe.refl _), trivial⟩, tellHp_box rfl rfl ⟨DLe.refl _, rfl, trivial⟩ (tellHp_row rfl rfl rfl (fun j hj => rfl) tellHp_nil)⟩⟩
        · skip
          have cz := c_spec_l1Chance c hc (q3 + 1) 20 (by omega) (by omega)
          refine .inr ⟨rfl, use_mut ⟨_, _, _, _, _, _, rfl, rfl, cz, rfl, ?_⟩⟩
          refine bsplit_intro (fun h9 => ?_) (fun h9 => ?_)
          · refine .inr ⟨rfl, use_mutS ⟨_, _, _, _, rfl, rfl, c_spec_l3Memory c hc (q3 + 1 + 1) (by omega) (by omega), rfl, ?_⟩⟩
            rintro _ _ _ ⟨lm, qm, hm1, hm2, hm3, rfl, rfl, rfl⟩
            refine ⟨rfl, ?_⟩
            exact ⟨_, _, _, [(1, 12)], ⟨m, l, lm, qm, _, hs, hf, hl, by omega, by omega, by omega, .inl rfl, rfl, rfl, rfl⟩,
              chk_intro (by kernel_rfl) ⟨⟨⟨DLe.refl _, rfl, tellV_frz rfl rfl rfl (DLe.refl _), rfl, rfl, rfl, rfl, DLe.refl _, DLe.refl _, trivial⟩, rfl, DLe.refl _, trivial⟩, tellHp_box rfl rfl ⟨DLe.refl _, rfl, trivial⟩ (tellHp_row rfl rfl rfl (fun j hj => rfl) tellHp_nil)⟩⟩
          · skip
            exact ⟨_, _, _, [(1, 12)], ⟨m, l, mem, q3 + 1 + 1, _, hs, hf, hl, by omega, by omega, by omega, .inl rfl, rfl, rfl, rfl⟩,
              chk_intro (by kernel_rfl) ⟨⟨⟨DLe.refl _, rfl, tellV_frz rfl rfl rfl (DLe.refl _), rfl, rfl, rfl, rfl, DLe.refl _, DLe.refl _, trivial⟩, rfl, tellV_frz rfl rfl rfl (DLe.refl _), trivial⟩, tellHp_box rfl rfl ⟨DLe.refl _, rfl, trivial⟩ (tellHp_row rfl rfl rfl (fun j hj => rfl) tellHp_nil)⟩⟩
  · refine ⟨rfl, ?_⟩
    have cc := c_spec_l1Chance c hc q1 3 (by omega) (by omega)
    refine .inr ⟨rfl, use_mut ⟨_, _, _, _, _, _, rfl, rfl, cc, rfl, ?_⟩⟩
    refine bsplit_intro (fun h6 => ?_) (fun h6 => ?_)
    · refine ⟨{ x : List PageM × Nat // x.1.length = 8 ∧ x.2 ≤ 5 }, fun x => ⟨frL [(0, .ptr 0 0), (2, .ptr 10 0), (5, .ptr 11 0), (6, .sub 12 2 1 8), (7, di x.1.2)], hpL [(0, srcBox c (q1 + 1)), (10, .box 30 [.d (.v (.slice none 0 0)), di 0, .d (.v (.slice none 0 0)), dv (.bool false), dv (.bool false), dv (.bool false), di 0, .d (.v (.slice none 0 0)), .d (.v (.slice none 0 0))]), (11, .box 30 [.d (ints m.regs), di m.pc, .row 13, dv (.bool m.halted), dv (.bool m.waiting), dv (.bool m.rung), di m.done, .d (ints m.inp), .d (ints m.out)]), (12, rowP x.1.1), (13, rowE m.csr)], 100, 1⟩, fun x => 5 - x.1.2, ⟨(l, 0), hl, Nat.zero_le _⟩,
        le_of [(10, 1), (11, 4161), (12, 8225), (13, 4129)] rfl rfl rfl rfl (tellHp_box rfl rfl ⟨DLe.refl _, rfl, trivial⟩ (tellHp_box rfl rfl ⟨rfl, rfl, rfl, rfl, rfl, rfl, rfl, rfl, rfl, trivial⟩ (tellHp_box rfl rfl ⟨DLe.refl _, rfl, rfl, rfl, rfl, rfl, rfl, DLe.refl _, DLe.refl _, trivial⟩ (tellHp_row rfl rfl rfl (fun j hj => rfl) (tellHp_row rfl rfl rfl (fun j hj => rfl) tellHp_nil))))) (tellFr_ptr rfl rfl (tellFr_ptr rfl rfl (tellFr_ptr rfl rfl (tellFr_x rfl ⟨rfl, rfl, rfl, rfl⟩ (tellFr_v rfl rfl trivial))))), ?_⟩
      rintro ⟨⟨l, k⟩, hl, hk⟩
      simp only at hl hk
      by_cases h : k < 5
      · have hwk := congrArg (Value.int .i64) (wrap1 h (by omega))
        have hmm : Int.tmod (k : Int) 7 = (k : Int) := by rw [Int.tmod_eq_emod_of_nonneg (by omega)]; (try rw [hl]); omega
        have hix : (1 + (Int.tmod (k : Int) 7).toNat) < l.length := by omega
        refine bsplit_of_true (decide_eq_true (show (k : Int) < 5 by omega)) ?_
        refine ask_intro trivial ?_
        refine ask_intro (show (7 : Int) ≠ 0 by decide) ?_
        refine ask_intro ⟨by show 0 ≤ Int.tmod (k : Int) 7; omega, by show Int.tmod (k : Int) 7 < (7 : Int); omega⟩ ?_
        refine ask_intro (by show (1 + (Int.tmod (k : Int) 7).toNat) < l.length; omega) ?_
        exact ⟨⟨(l.set (1 + (Int.tmod (k : Int) 7).toNat) ⟨(k : Int), 7⟩, k + 1), by show (l.set _ _).length = 8; rw [List.length_set]; exact hl, by show k + 1 ≤ 5; omega⟩,
          le_of [(10, 10), (11, 11), (12, 12), (13, 13)] rfl rfl rfl rfl (tellHp_box rfl rfl ⟨DLe.refl _, rfl, trivial⟩ (tellHp_box rfl rfl ⟨rfl, rfl, rfl, rfl, rfl, rfl, rfl, rfl, rfl, trivial⟩ (tellHp_box rfl rfl ⟨DLe.refl _, rfl, rfl, rfl, rfl, rfl, rfl, DLe.refl _, DLe.refl _, trivial⟩ (tellHp_row rfl rfl (show l.length = (l.set (1 + (Int.tmod (k : Int) 7).toNat) ⟨(k : Int), 7⟩).length by rw [List.length_set]) (fun j hj => set_pageC hix j) (tellHp_row rfl rfl rfl (fun j hj => rfl) tellHp_nil))))) (tellFr_ptr rfl rfl (tellFr_ptr rfl rfl (tellFr_ptr rfl rfl (tellFr_x rfl ⟨rfl, rfl, rfl, rfl⟩ (tellFr_v rfl hwk trivial))))), by show 5 - (k + 1) < 5 - k; omega⟩
      · obtain rfl : k = 5 := by omega
        refine bsplit_of_false (decide_eq_false (show ¬ ((5 : Nat) : Int) < 5 by omega)) ?_
        refine .inl ⟨_, _, rfl, c6, rfl, ?_⟩
        refine .inr ⟨rfl, use_mutS ⟨_, _, _, _, rfl, rfl, c_spec_l7Image c hc (q1 + 1) 40 (by omega) (by omega) (by omega) (by omega), rfl, ?_⟩⟩
        rintro _ _ _ ⟨img, q3, hi1, hi2, hi3, rfl, rfl, rfl⟩
        refine ⟨rfl, ?_⟩
        refine ⟨{ x : List Int × Nat // x.1.length = 48 ∧ x.2 ≤ 40 }, fun x => ⟨frL [(0, .ptr 0 0), (2, .ptr 10 0), (5, .ptr 11 0), (6, .sub 12 2 1 8), (8, .row 15), (9, .row 14), (10, di x.1.2)], hpL [(0, srcBox c (q3)), (10, .box 30 [.d (.v (.slice none 0 0)), di 0, .d (.v (.slice none 0 0)), dv (.bool false), dv (.bool false), dv (.bool false), di 0, .d (.v (.slice none 0 0)), .d (.v (.slice none 0 0))]), (11, .box 30 [.d (ints m.regs), di m.pc, .row 13, dv (.bool m.halted), dv (.bool m.waiting), dv (.bool m.rung), di m.done, .d (ints m.inp), .d (ints m.out)]), (12, rowP l), (13, rowE m.csr), (14, rowE img), (15, rowE x.1.1)], 100, 1⟩, fun x => 40 - x.1.2, ⟨(List.replicate (8 * (6 : Int).toNat) 0, 0), by rw [List.length_replicate]; rfl, Nat.zero_le _⟩,
          le_of [(10, 10), (11, 11), (12, 12), (13, 13), (14, 8324), (15, 4197)] rfl rfl rfl rfl (tellHp_box rfl rfl ⟨DLe.refl _, rfl, trivial⟩ (tellHp_box rfl rfl ⟨rfl, rfl, rfl, rfl, rfl, rfl, rfl, rfl, rfl, trivial⟩ (tellHp_box rfl rfl ⟨DLe.refl _, rfl, rfl, rfl, rfl, rfl, rfl, DLe.refl _, DLe.refl _, trivial⟩ (tellHp_row rfl rfl rfl (fun j hj => rfl) (tellHp_row rfl rfl rfl (fun j hj => rfl) (tellHp_row rfl rfl rfl (fun j hj => rfl) (tellHp_row rfl rfl rfl (fun j hj => rfl) tellHp_nil))))))) (tellFr_ptr rfl rfl (tellFr_ptr rfl rfl (tellFr_ptr rfl rfl (tellFr_x rfl ⟨rfl, rfl, rfl, rfl⟩ (tellFr_row rfl rfl (tellFr_row rfl rfl (tellFr_v rfl rfl trivial))))))), ?_⟩
        rintro ⟨⟨mem, i⟩, hM, hi⟩
        simp only at hM hi
        by_cases h : i < 40
        · have hwi := congrArg (Value.int .i64) (wrap1 h (by omega))
          refine bsplit_of_true (decide_eq_true (show (i : Int) < (img.length : Int) by omega)) ?_
          refine ask_intro ⟨by omega, by show (i : Int) < (img.length : Int); omega⟩ ?_
          refine ask_intro (by show i < img.length; omega) ?_
          refine ask_intro ⟨by omega, by show (i : Int) < (mem.length : Int); omega⟩ ?_
          refine ask_intro (by show i < mem.length; omega) ?_
          exact ⟨⟨(mem.set i (img.getD i 0), i + 1), by show (mem.set i _).length = 48; rw [List.length_set]; exact hM, by show i + 1 ≤ 40; omega⟩,
            le_of [(10, 10), (11, 11), (12, 12), (13, 13), (14, 14), (15, 15)] rfl rfl rfl rfl (tellHp_box rfl rfl ⟨DLe.refl _, rfl, trivial⟩ (tellHp_box rfl rfl ⟨rfl, rfl, rfl, rfl, rfl, rfl, rfl, rfl, rfl, trivial⟩ (tellHp_box rfl rfl ⟨DLe.refl _, rfl, rfl, rfl, rfl, rfl, rfl, DLe.refl _, DLe.refl _, trivial⟩ (tellHp_row rfl rfl rfl (fun j hj => rfl) (tellHp_row rfl rfl rfl (fun j hj => rfl) (tellHp_row rfl rfl rfl (fun j hj => rfl) (tellHp_row rfl rfl (show mem.length = (mem.set i (img.getD i 0)).length by rw [List.length_set]) (fun j hj => set_at (l := mem) (i := i) rfl (by omega)) tellHp_nil))))))) (tellFr_ptr rfl rfl (tellFr_ptr rfl rfl (tellFr_ptr rfl rfl (tellFr_x rfl ⟨rfl, rfl, rfl, rfl⟩ (tellFr_row rfl rfl (tellFr_row rfl rfl (tellFr_v rfl hwi trivial))))))), by show 40 - (i + 1) < 40 - i; omega⟩
        · obtain rfl : i = 40 := by omega
          refine bsplit_of_false (decide_eq_false (show ¬ ((40 : Nat) : Int) < (img.length : Int) by omega)) ?_
          have cy := c_spec_l1Chance c hc q3 4 (by omega) (by omega)
          refine .inr ⟨rfl, use_mut ⟨_, _, _, _, _, _, rfl, rfl, cy, rfl, ?_⟩⟩
          refine bsplit_intro (fun h8 => ?_) (fun h8 => ?_)
          · refine ⟨{ x : List Int × Nat × Int // x.1.length = 48 ∧ x.2.1 ≤ 8 ∧ q3 + 1 ≤ x.2.2 ∧ x.2.2 ≤ q3 + 1 + 2 * x.2.1 }, fun x => ⟨frL [(0, .ptr 0 0), (2, .ptr 10 0), (5, .ptr 11 0), (6, .sub 12 2 1 8), (8, .row 15), (11, di x.1.2.1)], hpL [(0, srcBox c (x.1.2.2)), (10, .box 30 [.d (.v (.slice none 0 0)), di 0, .d (.v (.slice none 0 0)), dv (.bool false), dv (.bool false), dv (.bool false), di 0, .d (.v (.slice none 0 0)), .d (.v (.slice none 0 0))]), (11, .box 30 [.d (ints m.regs), di m.pc, .row 13, dv (.bool m.halted), dv (.bool m.waiting), dv (.bool m.rung), di m.done, .d (ints m.inp), .d (ints m.out)]), (12, rowP l), (13, rowE m.csr), (15, rowE x.1.1)], 100, 1⟩, fun x => 8 - x.1.2.1, ⟨(mem, 0, q3 + 1), hM, Nat.zero_le _, by show q3 + 1 ≤ q3 + 1; omega, by show q3 + 1 ≤ q3 + 1 + 2 * ((0 : Nat) : Int); omega⟩,
              le_of [(10, 10), (11, 11), (12, 12), (13, 13), (15, 15)] rfl rfl rfl rfl (tellHp_box rfl rfl ⟨DLe.refl _, rfl, trivial⟩ (tellHp_box rfl rfl ⟨rfl, rfl, rfl, rfl, rfl, rfl, rfl, rfl, rfl, trivial⟩ (tellHp_box rfl rfl ⟨DLe.refl _, rfl, rfl, rfl, rfl, rfl, rfl, DLe.refl _, DLe.refl _, trivial⟩ (tellHp_row rfl rfl rfl (fun j hj => rfl) (tellHp_row rfl rfl rfl (fun j hj => rfl) (tellHp_row rfl rfl rfl (fun j hj => rfl) tellHp_nil)))))) (tellFr_ptr rfl rfl (tellFr_ptr rfl rfl (tellFr_ptr rfl rfl (tellFr_x rfl ⟨rfl, rfl, rfl, rfl⟩ (tellFr_row rfl rfl (tellFr_v rfl rfl trivial)))))), ?_⟩
            rintro ⟨⟨mem, k, q⟩, hM, hk, hq5, hq6⟩
            simp only at hM hk hq5 hq6
            by_cases hk8 : k < 8
            · have hwk := congrArg (Value.int .i64) (wrap1 hk8 (by omega))
              have hw8 : IntKind.i64.wrap (8 + (k : Int)) = 8 + (k : Int) := wrap_i64 _ (by omega) (by omega)
              have ca := c_spec_l1Next c hc q 9 (by omega) (by omega)
              have cb := c_spec_l1Next c hc (q + 1) 8 (by omega) (by omega)
              refine bsplit_of_true (decide_eq_true (show (k : Int) < 8 by omega)) ?_
              refine .inr ⟨rfl, use_mut ⟨_, _, _, _, _, _, rfl, rfl, ca, rfl, ?_⟩⟩
              refine .inr ⟨rfl, use_mut ⟨_, _, _, _, _, _, rfl, rfl, cb, rfl, ?_⟩⟩
              refine ask_intro ⟨by show 0 ≤ IntKind.i64.wrap (8 + (k : Int)); omega, by show IntKind.i64.wrap (8 + (k : Int)) < (mem.length : Int); omega⟩ ?_
              refine ask_intro (by show (IntKind.i64.wrap (8 + (k : Int))).toNat < mem.length; omega) ?_
              exact ⟨⟨(mem.set (IntKind.i64.wrap (8 + (k : Int))).toNat (IntKind.i64.wrap (IntKind.i64.wrap (8 * nx c q 9) + nx c (q + 1) 8)), k + 1, q + 1 + 1), by show (mem.set _ _).length = 48; rw [List.length_set]; exact hM, by show k + 1 ≤ 8; omega, by show q3 + 1 ≤ q + 1 + 1; omega, by show q + 1 + 1 ≤ q3 + 1 + 2 * ((k + 1 : Nat) : Int); omega⟩,
                le_of [(10, 10), (11, 11), (12, 12), (13, 13), (15, 15)] rfl rfl rfl rfl (tellHp_box rfl rfl ⟨DLe.refl _, rfl, trivial⟩ (tellHp_box rfl rfl ⟨rfl, rfl, rfl, rfl, rfl, rfl, rfl, rfl, rfl, trivial⟩ (tellHp_box rfl rfl ⟨DLe.refl _, rfl, rfl, rfl, rfl, rfl, rfl, DLe.refl _, DLe.refl _, trivial⟩ (tellHp_row rfl rfl rfl (fun j hj => rfl) (tellHp_row rfl rfl rfl (fun j hj => rfl) (tellHp_row rfl rfl (show mem.length = (mem.set (IntKind.i64.wrap (8 + (k : Int))).toNat (IntKind.i64.wrap (IntKind.i64.wrap (8 * nx c q 9) + nx c (q + 1) 8))).length by rw [List.length_set]) (fun j hj => set_at (l := mem) (i := (IntKind.i64.wrap (8 + (k : Int))).toNat) rfl (by omega)) tellHp_nil)))))) (tellFr_ptr rfl rfl (tellFr_ptr rfl rfl (tellFr_ptr rfl rfl (tellFr_x rfl ⟨rfl, rfl, rfl, rfl⟩ (tellFr_row rfl rfl (tellFr_v rfl hwk trivial)))))), by show 8 - (k + 1) < 8 - k; omega⟩
            · obtain rfl : k = 8 := by omega
              refine bsplit_of_false (decide_eq_false (show ¬ ((8 : Nat) : Int) < 8 by omega)) ?_
              refine bsplit_of_true (show ((m.csr.length : Int) == 11) = true by rw [h11]; rfl) ?_
              refine ask_intro ⟨by omega, by show (10 : Int) < (m.csr.length : Int); omega⟩ ?_
              refine ask_intro (by show 10 < m.csr.length; omega) ?_
              have cz := c_spec_l1Chance c hc (q) 20 (by omega) (by omega)
              refine .inr ⟨rfl, use_mut ⟨_, _, _, _, _, _, rfl, rfl, cz, rfl, ?_⟩⟩
              refine bsplit_intro (fun h9 => ?_) (fun h9 => ?_)
              · refine .inr ⟨rfl, use_mutS ⟨_, _, _, _, rfl, rfl, c_spec_l3Memory c hc (q + 1) (by omega) (by omega), rfl, ?_⟩⟩
                rintro _ _ _ ⟨lm, qm, hm1, hm2, hm3, rfl, rfl, rfl⟩
                refine ⟨rfl, ?_⟩
                exact ⟨_, _, _, [(1, 12)], ⟨{ m with csr := m.csr.set 10 2 }, l, lm, qm, _, hs2.1, hs2.2, hl, by omega, by omega, by omega, .inr rfl, rfl, rfl, rfl⟩,
                  chk_intro (by kernel_rfl) ⟨⟨⟨DLe.refl _, rfl, tellV_frz rfl rfl rfl (DLe.l (show m.csr.length = (m.csr.set 10 2).length by rw [List.length_set]) (fun j hj => set_at (l := m.csr) (i := 10) rfl (by omega))), rfl, rfl, rfl, rfl, DLe.refl _, DLe.refl _, trivial⟩, ⟨rfl, rfl, rfl, rfl⟩, DLe.refl _, trivial⟩, tellHp_box rfl rfl ⟨DLe.refl _, rfl, trivial⟩ (tellHp_row rfl rfl rfl (fun j hj => rfl) tellHp_nil)⟩⟩
              · skip
                exact ⟨_, _, _, [(1, 12)], ⟨{ m with csr := m.csr.set 10 2 }, l, mem, q + 1, _, hs2.1, hs2.2, hl, by omega, by omega, by omega, .inr rfl, rfl, rfl, rfl⟩,
                  chk_intro (by kernel_rfl) ⟨⟨⟨DLe.refl _, rfl, tellV_frz rfl rfl rfl (DLe.l (show m.csr.length = (m.csr.set 10 2).length by rw [List.length_set]) (fun j hj => set_at (l := m.csr) (i := 10) rfl (by omega))), rfl, rfl, rfl, rfl, DLe.refl _, DLe.refl _, trivial⟩, ⟨rfl, rfl, rfl, rfl⟩, tellV_frz rfl rfl rfl (DLe.refl _), trivial⟩, tellHp_box rfl rfl ⟨DLe.refl _, rfl, trivial⟩ (tellHp_row rfl rfl rfl (fun j hj => rfl) tellHp_nil)⟩⟩
          · skip
            have cz := c_spec_l1Chance c hc (q3 + 1) 20 (by omega) (by omega)
            refine .inr ⟨rfl, use_mut ⟨_, _, _, _, _, _, rfl, rfl, cz, rfl, ?_⟩⟩
            refine bsplit_intro (fun h9 => ?_) (fun h9 => ?_)
            · refine .inr ⟨rfl, use_mutS ⟨_, _, _, _, rfl, rfl, c_spec_l3Memory c hc (q3 + 1 + 1) (by omega) (by omega), rfl, ?_⟩⟩
              rintro _ _ _ ⟨lm, qm, hm1, hm2, hm3, rfl, rfl, rfl⟩
              refine ⟨rfl, ?_⟩
              exact ⟨_, _, _, [(1, 12)], ⟨m, l, lm, qm, _, hs, hf, hl, by omega, by omega, by omega, .inr rfl, rfl, rfl, rfl⟩,
                chk_intro (by kernel_rfl) ⟨⟨⟨DLe.refl _, rfl, tellV_frz rfl rfl rfl (DLe.refl _), rfl, rfl, rfl, rfl, DLe.refl _, DLe.refl _, trivial⟩, ⟨rfl, rfl, rfl, rfl⟩, DLe.refl _, trivial⟩, tellHp_box rfl rfl ⟨DLe.refl _, rfl, trivial⟩ (tellHp_row rfl rfl rfl (fun j hj => rfl) tellHp_nil)⟩⟩
            · skip
              exact ⟨_, _, _, [(1, 12)], ⟨m, l, mem, q3 + 1 + 1, _, hs, hf, hl, by omega, by omega, by omega, .inr rfl, rfl, rfl, rfl⟩,
                chk_intro (by kernel_rfl) ⟨⟨⟨DLe.refl _, rfl, tellV_frz rfl rfl rfl (DLe.refl _), rfl, rfl, rfl, rfl, DLe.refl _, DLe.refl _, trivial⟩, ⟨rfl, rfl, rfl, rfl⟩, tellV_frz rfl rfl rfl (DLe.refl _), trivial⟩, tellHp_box rfl rfl ⟨DLe.refl _, rfl, trivial⟩ (tellHp_row rfl rfl rfl (fun j hj => rfl) tellHp_nil)⟩⟩
    · skip
      refine .inl ⟨_, _, rfl, c6, rfl, ?_⟩
      refine .inr ⟨rfl, use_mutS ⟨_, _, _, _, rfl, rfl, c_spec_l7Image c hc (q1 + 1) 40 (by omega) (by omega) (by omega) (by omega), rfl, ?_⟩⟩
      rintro _ _ _ ⟨img, q3, hi1, hi2, hi3, rfl, rfl, rfl⟩
      refine ⟨rfl, ?_⟩
      refine ⟨{ x : List Int × Nat // x.1.length = 48 ∧ x.2 ≤ 40 }, fun x => ⟨frL [(0, .ptr 0 0), (2, .ptr 10 0), (5, .ptr 11 0), (6, .sub 12 2 1 8), (8, .row 15), (9, .row 14), (10, di x.1.2)], hpL [(0, srcBox c (q3)), (10, .box 30 [.d (.v (.slice none 0 0)), di 0, .d (.v (.slice none 0 0)), dv (.bool false), dv (.bool false), dv (.bool false), di 0, .d (.v (.slice none 0 0)), .d (.v (.slice none 0 0))]), (11, .box 30 [.d (ints m.regs), di m.pc, .row 13, dv (.bool m.halted), dv (.bool m.waiting), dv (.bool m.rung), di m.done, .d (ints m.inp), .d (ints m.out)]), (12, rowP l), (13, rowE m.csr), (14, rowE img), (15, rowE x.1.1)], 100, 1⟩, fun x => 40 - x.1.2, ⟨(List.replicate (8 * (6 : Int).toNat) 0, 0), by rw [List.length_replicate]; rfl, Nat.zero_le _⟩,
        le_of [(10, 1), (11, 4161), (12, 8225), (13, 4129), (14, 20513), (15, 16386)] rfl rfl rfl rfl (tellHp_box rfl rfl ⟨DLe.refl _, rfl, trivial⟩ (tellHp_box rfl rfl ⟨rfl, rfl, rfl, rfl, rfl, rfl, rfl, rfl, rfl, trivial⟩ (tellHp_box rfl rfl ⟨DLe.refl _, rfl, rfl, rfl, rfl, rfl, rfl, DLe.refl _, DLe.refl _, trivial⟩ (tellHp_row rfl rfl rfl (fun j hj => rfl) (tellHp_row rfl rfl rfl (fun j hj => rfl) (tellHp_row rfl rfl rfl (fun j hj => rfl) (tellHp_row rfl rfl rfl (fun j hj => rfl) tellHp_nil))))))) (tellFr_ptr rfl rfl (tellFr_ptr rfl rfl (tellFr_ptr rfl rfl (tellFr_x rfl ⟨rfl, rfl, rfl, rfl⟩ (tellFr_row rfl rfl (tellFr_row rfl rfl (tellFr_v rfl rfl trivial))))))), ?_⟩
      rintro ⟨⟨mem, i⟩, hM, hi⟩
      simp only at hM hi
      by_cases h : i < 40
      · have hwi := congrArg (Value.int .i64) (wrap1 h (by omega))
        refine bsplit_of_true (decide_eq_true (show (i : Int) < (img.length : Int) by omega)) ?_
        refine ask_intro ⟨by omega, by show (i : Int) < (img.length : Int); omega⟩ ?_
        refine ask_intro (by show i < img.length; omega) ?_
        refine ask_intro ⟨by omega, by show (i : Int) < (mem.length : Int); omega⟩ ?_
        refine ask_intro (by show i < mem.length; omega) ?_
        exact ⟨⟨(mem.set i (img.getD i 0), i + 1), by show (mem.set i _).length = 48; rw [List.length_set]; exact hM, by show i + 1 ≤ 40; omega⟩,
          le_of [(10, 10), (11, 11), (12, 12), (13, 13), (14, 14), (15, 15)] rfl rfl rfl rfl (tellHp_box rfl rfl ⟨DLe.refl _, rfl, trivial⟩ (tellHp_box rfl rfl ⟨rfl, rfl, rfl, rfl, rfl, rfl, rfl, rfl, rfl, trivial⟩ (tellHp_box rfl rfl ⟨DLe.refl _, rfl, rfl, rfl, rfl, rfl, rfl, DLe.refl _, DLe.refl _, trivial⟩ (tellHp_row rfl rfl rfl (fun j hj => rfl) (tellHp_row rfl rfl rfl (fun j hj => rfl) (tellHp_row rfl rfl rfl (fun j hj => rfl) (tellHp_row rfl rfl (show mem.length = (mem.set i (img.getD i 0)).length by rw [List.length_set]) (fun j hj => set_at (l := mem) (i := i) rfl (by omega)) tellHp_nil))))))) (tellFr_ptr rfl rfl (tellFr_ptr rfl rfl (tellFr_ptr rfl rfl (tellFr_x rfl ⟨rfl, rfl, rfl, rfl⟩ (tellFr_row rfl rfl (tellFr_row rfl rfl (tellFr_v rfl hwi trivial))))))), by show 40 - (i + 1) < 40 - i; omega⟩
      · obtain rfl : i = 40 := by omega
        refine bsplit_of_false (decide_eq_false (show ¬ ((40 : Nat) : Int) < (img.length : Int) by omega)) ?_
        have cy := c_spec_l1Chance c hc q3 4 (by omega) (by omega)
        refine .inr ⟨rfl, use_mut ⟨_, _, _, _, _, _, rfl, rfl, cy, rfl, ?_⟩⟩
        refine bsplit_intro (fun h8 => ?_) (fun h8 => ?_)
        · refine ⟨{ x : List Int × Nat × Int // x.1.length = 48 ∧ x.2.1 ≤ 8 ∧ q3 + 1 ≤ x.2.2 ∧ x.2.2 ≤ q3 + 1 + 2 * x.2.1 }, fun x => ⟨frL [(0, .ptr 0 0), (2, .ptr 10 0), (5, .ptr 11 0), (6, .sub 12 2 1 8), (8, .row 15), (11, di x.1.2.1)], hpL [(0, srcBox c (x.1.2.2)), (10, .box 30 [.d (.v (.slice none 0 0)), di 0, .d (.v (.slice none 0 0)), dv (.bool false), dv (.bool false), dv (.bool false), di 0, .d (.v (.slice none 0 0)), .d (.v (.slice none 0 0))]), (11, .box 30 [.d (ints m.regs), di m.pc, .row 13, dv (.bool m.halted), dv (.bool m.waiting), dv (.bool m.rung), di m.done, .d (ints m.inp), .d (ints m.out)]), (12, rowP l), (13, rowE m.csr), (15, rowE x.1.1)], 100, 1⟩, fun x => 8 - x.1.2.1, ⟨(mem, 0, q3 + 1), hM, Nat.zero_le _, by show q3 + 1 ≤ q3 + 1; omega, by show q3 + 1 ≤ q3 + 1 + 2 * ((0 : Nat) : Int); omega⟩,
            le_of [(10, 10), (11, 11), (12, 12), (13, 13), (15, 15)] rfl rfl rfl rfl (tellHp_box rfl rfl ⟨DLe.refl _, rfl, trivial⟩ (tellHp_box rfl rfl ⟨rfl, rfl, rfl, rfl, rfl, rfl, rfl, rfl, rfl, trivial⟩ (tellHp_box rfl rfl ⟨DLe.refl _, rfl, rfl, rfl, rfl, rfl, rfl, DLe.refl _, DLe.refl _, trivial⟩ (tellHp_row rfl rfl rfl (fun j hj => rfl) (tellHp_row rfl rfl rfl (fun j hj => rfl) (tellHp_row rfl rfl rfl (fun j hj => rfl) tellHp_nil)))))) (tellFr_ptr rfl rfl (tellFr_ptr rfl rfl (tellFr_ptr rfl rfl (tellFr_x rfl ⟨rfl, rfl, rfl, rfl⟩ (tellFr_row rfl rfl (tellFr_v rfl rfl trivial)))))), ?_⟩
          rintro ⟨⟨mem, k, q⟩, hM, hk, hq5, hq6⟩
          simp only at hM hk hq5 hq6
          by_cases hk8 : k < 8
          · have hwk := congrArg (Value.int .i64) (wrap1 hk8 (by omega))
            have hw8 : IntKind.i64.wrap (8 + (k : Int)) = 8 + (k : Int) := wrap_i64 _ (by omega) (by omega)
            have ca := c_spec_l1Next c hc q 9 (by omega) (by omega)
            have cb := c_spec_l1Next c hc (q + 1) 8 (by omega) (by omega)
            refine bsplit_of_true (decide_eq_true (show (k : Int) < 8 by omega)) ?_
            refine .inr ⟨rfl, use_mut ⟨_, _, _, _, _, _, rfl, rfl, ca, rfl, ?_⟩⟩
            refine .inr ⟨rfl, use_mut ⟨_, _, _, _, _, _, rfl, rfl, cb, rfl, ?_⟩⟩
            refine ask_intro ⟨by show 0 ≤ IntKind.i64.wrap (8 + (k : Int)); omega, by show IntKind.i64.wrap (8 + (k : Int)) < (mem.length : Int); omega⟩ ?_
            refine ask_intro (by show (IntKind.i64.wrap (8 + (k : Int))).toNat < mem.length; omega) ?_
            exact ⟨⟨(mem.set (IntKind.i64.wrap (8 + (k : Int))).toNat (IntKind.i64.wrap (IntKind.i64.wrap (8 * nx c q 9) + nx c (q + 1) 8)), k + 1, q + 1 + 1), by show (mem.set _ _).length = 48; rw [List.length_set]; exact hM, by show k + 1 ≤ 8; omega, by show q3 + 1 ≤ q + 1 + 1; omega, by show q + 1 + 1 ≤ q3 + 1 + 2 * ((k + 1 : Nat) : Int); omega⟩,
              le_of [(10, 10), (11, 11), (12, 12), (13, 13), (15, 15)] rfl rfl rfl rfl (tellHp_box rfl rfl ⟨DLe.refl _, rfl, trivial⟩ (tellHp_box rfl rfl ⟨rfl, rfl, rfl, rfl, rfl, rfl, rfl, rfl, rfl, trivial⟩ (tellHp_box rfl rfl ⟨DLe.refl _, rfl, rfl, rfl, rfl, rfl, rfl, DLe.refl _, DLe.refl _, trivial⟩ (tellHp_row rfl rfl rfl (fun j hj => rfl) (tellHp_row rfl rfl rfl (fun j hj => rfl) (tellHp_row rfl rfl (show mem.length = (mem.set (IntKind.i64.wrap (8 + (k : Int))).toNat (IntKind.i64.wrap (IntKind.i64.wrap (8 * nx c q 9) + nx c (q + 1) 8))).length by rw [List.length_set]) (fun j hj => set_at (l := mem) (i := (IntKind.i64.wrap (8 + (k : Int))).toNat) rfl (by omega)) tellHp_nil)))))) (tellFr_ptr rfl rfl (tellFr_ptr rfl rfl (tellFr_ptr rfl rfl (tellFr_x rfl ⟨rfl, rfl, rfl, rfl⟩ (tellFr_row rfl rfl (tellFr_v rfl hwk trivial)))))), by show 8 - (k + 1) < 8 - k; omega⟩
          · obtain rfl : k = 8 := by omega
            refine bsplit_of_false (decide_eq_false (show ¬ ((8 : Nat) : Int) < 8 by omega)) ?_
            refine bsplit_of_true (show ((m.csr.length : Int) == 11) = true by rw [h11]; rfl) ?_
            refine ask_intro ⟨by omega, by show (10 : Int) < (m.csr.length : Int); omega⟩ ?_
            refine ask_intro (by show 10 < m.csr.length; omega) ?_
            have cz := c_spec_l1Chance c hc (q) 20 (by omega) (by omega)
            refine .inr ⟨rfl, use_mut ⟨_, _, _, _, _, _, rfl, rfl, cz, rfl, ?_⟩⟩
            refine bsplit_intro (fun h9 => ?_) (fun h9 => ?_)
            · refine .inr ⟨rfl, use_mutS ⟨_, _, _, _, rfl, rfl, c_spec_l3Memory c hc (q + 1) (by omega) (by omega), rfl, ?_⟩⟩
              rintro _ _ _ ⟨lm, qm, hm1, hm2, hm3, rfl, rfl, rfl⟩
              refine ⟨rfl, ?_⟩
              exact ⟨_, _, _, [(1, 12)], ⟨{ m with csr := m.csr.set 10 2 }, l, lm, qm, _, hs2.1, hs2.2, hl, by omega, by omega, by omega, .inr rfl, rfl, rfl, rfl⟩,
                chk_intro (by kernel_rfl) ⟨⟨⟨DLe.refl _, rfl, tellV_frz rfl rfl rfl (DLe.l (show m.csr.length = (m.csr.set 10 2).length by rw [List.length_set]) (fun j hj => set_at (l := m.csr) (i := 10) rfl (by omega))), rfl, rfl, rfl, rfl, DLe.refl _, DLe.refl _, trivial⟩, ⟨rfl, rfl, rfl, rfl⟩, DLe.refl _, trivial⟩, tellHp_box rfl rfl ⟨DLe.refl _, rfl, trivial⟩ (tellHp_row rfl rfl rfl (fun j hj => rfl) tellHp_nil)⟩⟩
            · skip
              exact ⟨_, _, _, [(1, 12)], ⟨{ m with csr := m.csr.set 10 2 }, l, mem, q + 1, _, hs2.1, hs2.2, hl, by omega, by omega, by omega, .inr rfl, rfl, rfl, rfl⟩,
                chk_intro (by kernel_rfl) ⟨⟨⟨DLe.refl _, rfl, tellV_frz rfl rfl rfl (DLe.l (show m.csr.length = (m.csr.set 10 2).length by rw [List.length_set]) (fun j hj => set_at (l := m.csr) (i := 10) rfl (by omega))), rfl, rfl, rfl, rfl, DLe.refl _, DLe.refl _, trivial⟩, ⟨rfl, rfl, rfl, rfl⟩, tellV_frz rfl rfl rfl (DLe.refl _), trivial⟩, tellHp_box rfl rfl ⟨DLe.refl _, rfl, trivial⟩ (tellHp_row rfl rfl rfl (fun j hj => rfl) tellHp_nil)⟩⟩
        · skip
          have cz := c_spec_l1Chance c hc (q3 + 1) 20 (by omega) (by omega)
          refine .inr ⟨rfl, use_mut ⟨_, _, _, _, _, _, rfl, rfl, cz, rfl, ?_⟩⟩
          refine bsplit_intro (fun h9 => ?_) (fun h9 => ?_)
          · refine .inr ⟨rfl, use_mutS ⟨_, _, _, _, rfl, rfl, c_spec_l3Memory c hc (q3 + 1 + 1) (by omega) (by omega), rfl, ?_⟩⟩
            rintro _ _ _ ⟨lm, qm, hm1, hm2, hm3, rfl, rfl, rfl⟩
            refine ⟨rfl, ?_⟩
            exact ⟨_, _, _, [(1, 12)], ⟨m, l, lm, qm, _, hs, hf, hl, by omega, by omega, by omega, .inr rfl, rfl, rfl, rfl⟩,
              chk_intro (by kernel_rfl) ⟨⟨⟨DLe.refl _, rfl, tellV_frz rfl rfl rfl (DLe.refl _), rfl, rfl, rfl, rfl, DLe.refl _, DLe.refl _, trivial⟩, ⟨rfl, rfl, rfl, rfl⟩, DLe.refl _, trivial⟩, tellHp_box rfl rfl ⟨DLe.refl _, rfl, trivial⟩ (tellHp_row rfl rfl rfl (fun j hj => rfl) tellHp_nil)⟩⟩
          · skip
            exact ⟨_, _, _, [(1, 12)], ⟨m, l, mem, q3 + 1 + 1, _, hs, hf, hl, by omega, by omega, by omega, .inr rfl, rfl, rfl, rfl⟩,
              chk_intro (by kernel_rfl) ⟨⟨⟨DLe.refl _, rfl, tellV_frz rfl rfl rfl (DLe.refl _), rfl, rfl, rfl, rfl, DLe.refl _, DLe.refl _, trivial⟩, ⟨rfl, rfl, rfl, rfl⟩, tellV_frz rfl rfl rfl (DLe.refl _), trivial⟩, tellHp_box rfl rfl ⟨DLe.refl _, rfl, trivial⟩ (tellHp_row rfl rfl rfl (fun j hj => rfl) tellHp_nil)⟩⟩
end Go.Proofs.Ytfcekiehcchebaa.L

/- Pages composed: a contract. -/
set_option linter.unusedVariables false
set_option linter.unusedSimpArgs false
set_option maxRecDepth 100000
namespace Go.Proofs.Ytfcekiehcchebaa.L
open Go.RowKit
def compE (two : List PageM) (a : PageM) : PageM := if a.to ≥ 0 then (if (two.getD a.to.toNat ⟨0, 0⟩).to ≥ 0 then (if (andI a.kinds (two.getD a.to.toNat ⟨0, 0⟩).kinds != 0) = true then ⟨(two.getD a.to.toNat ⟨0, 0⟩).to, andI a.kinds (two.getD a.to.toNat ⟨0, 0⟩).kinds⟩ else ⟨-1, 0⟩) else ⟨-1, 0⟩) else ⟨-1, 0⟩
def compL (one two : List PageM) : List PageM := one.map (compE two)
theorem c_impl_bothFault (one two : List PageM) (h1 : one.length ≤ 1048576) (h2 : two.length ≤ 1048576) (f1 : pagesFault one 8 = 0) (f2 : pagesFault two 24 = 0) : FnOK Try.prog 117 [.d (pages one), .d (pages two)] (ri 0) := by
  have c1 := c_impl_PagesFault one 8 h1
  have c2 := c_impl_PagesFault two 24 h2
  rw [f1] at c1
  rw [f2] at c2
  refine fn_of lv117 Try.func117 rfl rfl (by kernel_rfl) rfl ?_
  refine .inl ⟨_, _, rfl, c1, rfl, ?_⟩
  refine .inl ⟨_, _, rfl, c2, rfl, ?_⟩
  refine .inl ⟨_, _, rfl, (c_impl_firstOf [0, 0] (by simp)).weak ⟨LVLe.d (DLe.l rfl (fun i hi => litD_eq [0, 0] i hi)), trivial⟩, rfl, ?_⟩
  exact ⟨⟨rfl, trivial⟩, rfl⟩
set_option maxHeartbeats 1600000 in
theorem c_impl_ComposePages (one two : List PageM) (h1 : one.length ≤ 1048576) (h2 : two.length ≤ 1048576) (f1 : pagesFault one 8 = 0) (f2 : pagesFault two 24 = 0) : FnOK Try.prog 68 [.d (pages one), .d (pages two)] (.r (pgsR (0, compL one two))) := by
  have cb := c_impl_bothFault one two h1 h2 f1 f2
  have p1 := pagesFault_ok f1
  have p2 := pagesFault_ok f2
  obtain ⟨V, hV⟩ : ∃ V, V = compL one two := ⟨_, rfl⟩
  rw [← hV]
  unfold compL at hV
  have hVl : V.length = one.length := by rw [hV]; simp
  have hst := fun i (h : i < one.length) => take_mapG (⟨0, 0⟩ : PageM) (compE two) one i h
  rw [← hV] at hst
  refine fn_of lv68 Try.func68 rfl rfl (by kernel_rfl) rfl ?_
  refine .inl ⟨_, _, rfl, cb, rfl, ?_⟩
  repeat' (first | refine bsplit_true ?_ | refine bsplit_false ?_)
  refine ⟨{ i : Nat // i ≤ one.length }, fun i => ⟨frL [(1, .d (pages two)), (4, .ptr 65 0), (6, .row 67), (19, .d (pages one)), (20, di one.length), (21, di i.1)], hpL [(65, .box 71 [di 0, .d (.v (.slice none 0 0))]), (67, rowP (V.take i.1))], 96, 0⟩, fun i => one.length - i.1, ⟨0, by omega⟩,
    le_of [(65, 0), (67, 12288)] rfl rfl rfl rfl (tellHp_box rfl rfl ⟨rfl, rfl, trivial⟩ (tellHp_row rfl rfl rfl (fun j hj => absurd hj (Nat.not_lt_zero _)) tellHp_nil)) (tellFr_d rfl (DLe.refl _) (tellFr_ptr rfl rfl (tellFr_row rfl rfl (tellFr_d rfl (DLe.refl _) (tellFr_v rfl rfl (tellFr_v rfl rfl trivial)))))), ?_⟩
  rintro ⟨i, hi⟩
  by_cases h : i < one.length
  rotate_left
  · obtain rfl : i = one.length := by omega
    have e : V.take one.length = V := by rw [← hVl, List.take_length]
    refine bsplit_of_false (decide_eq_false (show ¬ (one.length : Int) < (one.length : Int) by omega)) ?_
    exact ⟨⟨rfl, ⟨rfl, rfl, (show (V.take one.length).length = V.length by rw [e]), fun j hj => ⟨(show pagesF (V.take one.length) j = pagesF V j by rw [e]), rfl⟩⟩, trivial⟩, rfl⟩
  have hwi := congrArg (Value.int .i64) (wrap1 h (by omega))
  have hs := hst i h
  have hlt : (V.take i).length = i := by rw [List.length_take]; omega
  have ha := p1.at_ (one.getD i ⟨0, 0⟩) (by rw [getD_at _ h]; exact List.getElem_mem h)
  have hl2 : ∀ z : PageM, (V.take i ++ [z]).length = (V.take i).length + 1 := fun z => by simp
  have hlen2 : two.length = 8 := p2.len
  have hil : i ≤ 1048576 := by omega
  unfold compE at hs
  by_cases hA : (one.getD i ⟨0, 0⟩).to ≥ 0
  rotate_left
  · rw [if_neg hA] at hs
    refine bsplit_of_true (decide_eq_true (show (i : Int) < (one.length : Int) by omega)) ?_
    refine ask_intro ⟨by omega, by show (i : Int) < (one.length : Int); omega, rfl⟩ ?_
    refine .inl ⟨_, _, rfl, c_impl_nowhere, rfl, ?_⟩
    refine bsplit_of_false (decide_eq_false hA) ?_
    refine ask_intro ⟨by show ((V.take i).length + 1) * 16 ≤ 140737488355328; omega, by show (V.take i).length + 1 ≤ 9223372036854775807; omega, one_len2 ⟨-1, 0⟩⟩ ?_
    exact ⟨⟨i + 1, by omega⟩, le_of [(65, 65), (67, 16576)] rfl rfl rfl rfl (tellHp_box rfl rfl ⟨rfl, rfl, trivial⟩ (tellHp_row rfl rfl (show (V.take i).length + 1 = (V.take (i + 1)).length by rw [← hs]; simp) (fun j hj => (app_pages (V.take i) ⟨-1, 0⟩ j hj).trans (by rw [hs])) tellHp_nil)) (tellFr_d rfl (DLe.refl _) (tellFr_ptr rfl rfl (tellFr_row rfl rfl (tellFr_d rfl (DLe.refl _) (tellFr_v rfl rfl (tellFr_v rfl hwi trivial)))))), by show one.length - (i + 1) < one.length - i; omega⟩
  rw [if_pos hA] at hs
  by_cases hB : (two.getD (one.getD i ⟨0, 0⟩).to.toNat ⟨0, 0⟩).to ≥ 0
  rotate_left
  · have dB : decide ((two.getD (one.getD i ⟨0, 0⟩).to.toNat ⟨0, 0⟩).to ≥ 0) = false := decide_eq_false hB
    rw [if_neg hB] at hs
    refine bsplit_of_true (decide_eq_true (show (i : Int) < (one.length : Int) by omega)) ?_
    refine ask_intro ⟨by omega, by show (i : Int) < (one.length : Int); omega, rfl⟩ ?_
    refine .inl ⟨_, _, rfl, c_impl_nowhere, rfl, ?_⟩
    refine bsplit_of_true (decide_eq_true hA) ?_
    refine ask_intro ⟨hA, by show (one.getD i ⟨0, 0⟩).to < (two.length : Int); omega, rfl⟩ ?_
    repeat' (first | refine bsplit_of_false dB ?_ | refine bsplit_false ?_)
    refine ask_intro ⟨by show ((V.take i).length + 1) * 16 ≤ 140737488355328; omega, by show (V.take i).length + 1 ≤ 9223372036854775807; omega, one_len2 ⟨-1, 0⟩⟩ ?_
    exact ⟨⟨i + 1, by omega⟩, le_of [(65, 65), (67, 24768)] rfl rfl rfl rfl (tellHp_box rfl rfl ⟨rfl, rfl, trivial⟩ (tellHp_row rfl rfl (show (V.take i).length + 1 = (V.take (i + 1)).length by rw [← hs]; simp) (fun j hj => (app_pages (V.take i) ⟨-1, 0⟩ j hj).trans (by rw [hs])) tellHp_nil)) (tellFr_d rfl (DLe.refl _) (tellFr_ptr rfl rfl (tellFr_row rfl rfl (tellFr_d rfl (DLe.refl _) (tellFr_v rfl rfl (tellFr_v rfl hwi trivial)))))), by show one.length - (i + 1) < one.length - i; omega⟩
  have dB : decide ((two.getD (one.getD i ⟨0, 0⟩).to.toNat ⟨0, 0⟩).to ≥ 0) = true := decide_eq_true hB
  rw [if_pos hB] at hs
  by_cases hK : (andI (one.getD i ⟨0, 0⟩).kinds (two.getD (one.getD i ⟨0, 0⟩).to.toNat ⟨0, 0⟩).kinds != 0) = true
  · rw [if_pos hK] at hs
    refine bsplit_of_true (decide_eq_true (show (i : Int) < (one.length : Int) by omega)) ?_
    refine ask_intro ⟨by omega, by show (i : Int) < (one.length : Int); omega, rfl⟩ ?_
    refine .inl ⟨_, _, rfl, c_impl_nowhere, rfl, ?_⟩
    refine bsplit_of_true (decide_eq_true hA) ?_
    refine ask_intro ⟨hA, by show (one.getD i ⟨0, 0⟩).to < (two.length : Int); omega, rfl⟩ ?_
    repeat' (first | refine bsplit_of_true dB ?_ | refine bsplit_true ?_)
    refine bsplit_of_true hK ?_
    refine ask_intro ⟨by show ((V.take i).length + 1) * 16 ≤ 140737488355328; omega, by show (V.take i).length + 1 ≤ 9223372036854775807; omega, one_len2 ⟨(two.getD (one.getD i ⟨0, 0⟩).to.toNat ⟨0, 0⟩).to, andI (one.getD i ⟨0, 0⟩).kinds (two.getD (one.getD i ⟨0, 0⟩).to.toNat ⟨0, 0⟩).kinds⟩⟩ ?_
    exact ⟨⟨i + 1, by omega⟩, le_of [(65, 65), (67, 28864)] rfl rfl rfl rfl (tellHp_box rfl rfl ⟨rfl, rfl, trivial⟩ (tellHp_row rfl rfl (show (V.take i).length + 1 = (V.take (i + 1)).length by rw [← hs]; simp) (fun j hj => (app_pages (V.take i) ⟨(two.getD (one.getD i ⟨0, 0⟩).to.toNat ⟨0, 0⟩).to, andI (one.getD i ⟨0, 0⟩).kinds (two.getD (one.getD i ⟨0, 0⟩).to.toNat ⟨0, 0⟩).kinds⟩ j hj).trans (by rw [hs])) tellHp_nil)) (tellFr_d rfl (DLe.refl _) (tellFr_ptr rfl rfl (tellFr_row rfl rfl (tellFr_d rfl (DLe.refl _) (tellFr_v rfl rfl (tellFr_v rfl hwi trivial)))))), by show one.length - (i + 1) < one.length - i; omega⟩
  · rw [if_neg hK] at hs
    have dK : (andI (one.getD i ⟨0, 0⟩).kinds (two.getD (one.getD i ⟨0, 0⟩).to.toNat ⟨0, 0⟩).kinds != 0) = false := Bool.eq_false_iff.2 hK
    refine bsplit_of_true (decide_eq_true (show (i : Int) < (one.length : Int) by omega)) ?_
    refine ask_intro ⟨by omega, by show (i : Int) < (one.length : Int); omega, rfl⟩ ?_
    refine .inl ⟨_, _, rfl, c_impl_nowhere, rfl, ?_⟩
    refine bsplit_of_true (decide_eq_true hA) ?_
    refine ask_intro ⟨hA, by show (one.getD i ⟨0, 0⟩).to < (two.length : Int); omega, rfl⟩ ?_
    repeat' (first | refine bsplit_of_true dB ?_ | refine bsplit_true ?_)
    refine bsplit_of_false dK ?_
    refine ask_intro ⟨by show ((V.take i).length + 1) * 16 ≤ 140737488355328; omega, by show (V.take i).length + 1 ≤ 9223372036854775807; omega, one_len2 ⟨-1, 0⟩⟩ ?_
    exact ⟨⟨i + 1, by omega⟩, le_of [(65, 65), (67, 24768)] rfl rfl rfl rfl (tellHp_box rfl rfl ⟨rfl, rfl, trivial⟩ (tellHp_row rfl rfl (show (V.take i).length + 1 = (V.take (i + 1)).length by rw [← hs]; simp) (fun j hj => (app_pages (V.take i) ⟨-1, 0⟩ j hj).trans (by rw [hs])) tellHp_nil)) (tellFr_d rfl (DLe.refl _) (tellFr_ptr rfl rfl (tellFr_row rfl rfl (tellFr_d rfl (DLe.refl _) (tellFr_v rfl rfl (tellFr_v rfl hwi trivial)))))), by show one.length - (i + 1) < one.length - i; omega⟩
end Go.Proofs.Ytfcekiehcchebaa.L

/- Spaces, places and pages composed: plain facts. -/
set_option linter.unusedVariables false
set_option linter.unusedSimpArgs false
set_option maxRecDepth 100000
namespace Go.Proofs.Ytfcekiehcchebaa.L
open Go.RowKit
/-- an entry with which nothing is wrong -/
def EntOK (top : Int) (p : PageM) : Prop := (-1 ≤ p.to ∧ p.to < top ∧ 0 ≤ p.kinds ∧ p.kinds ≤ 7) ∧ (p.to = -1 → p.kinds = 0)
theorem entOK_bad {top : Int} {p : PageM} (h : EntOK top p) : pageBad top p = 0 := by
  obtain ⟨⟨h1, h2, h3, h4⟩, h5⟩ := h
  unfold pageBad
  have b1 : inR p.to (-1) (top - 1) = true := inR_iff.2 ⟨h1, by omega⟩
  have b2 : inR p.kinds 0 7 = true := inR_iff.2 ⟨h3, h4⟩
  have b3 : ((p.to == -1) && (p.kinds != 0)) = false := by
    by_cases e : p.to = -1
    · rw [h5 e]; simp
    · rw [beq_eq_false_iff_ne.2 e]; rfl
  rw [b1, b2, b3]; rfl
theorem firstNZ_all0 : ∀ {l : List Int}, (∀ x ∈ l, x = 0) → firstNZ l = 0
  | [], _ => rfl
  | x :: l, h => by
    simp only [firstNZ]
    rw [if_pos (h x (.head _))]
    exact firstNZ_all0 (l := l) (fun y hy => h y (.tail _ hy))
theorem pagesFault_of {l : List PageM} {top : Int} (ht : inR top 1 24 = true) (hl : l.length = 8) (h : ∀ p ∈ l, EntOK top p) : pagesFault l top = 0 := by
  unfold pagesFault
  have e2 : ((l.length : Int) != 8) = false := by rw [hl]; rfl
  rw [ht, e2]
  show firstNZ _ = 0
  refine firstNZ_all0 fun v hv => ?_
  obtain ⟨e, he, rfl⟩ := List.mem_map.1 hv
  exact entOK_bad (h e he)
theorem entry_ok {w : Int} (h : 0 ≤ w) (h9 : w ≤ 4294967295) : EntOK 8 (entryP w) := by
  refine ⟨entryP_ok h h9, fun e => ?_⟩
  have h2 : 0 ≤ Int.tdiv w 8 := Int.tdiv_nonneg h (by omega)
  have h2' : Int.tdiv w 8 ≤ w := Int.tdiv_le_self 8 h
  unfold entryP at e ⊢
  cases hb : (Int.tmod w 8 == 0) || decide (IntKind.i64.wrap (Int.tdiv w 8) ≥ 8) with
  | true => rfl
  | false =>
    rw [hb] at e
    have e : IntKind.i64.wrap (Int.tdiv w 8) = -1 := e
    rw [wrap_i64 _ (by omega) (by omega)] at e
    omega
theorem space_ents {m : HartM} {l : List PageM} {mem : List Int} (ok : StepOK m l mem) (h : (spaceM m l mem).1 = 0) : (spaceM m l mem).2.length = 8 ∧ ∀ p ∈ (spaceM m l mem).2, EntOK 8 p := by
  refine ⟨(spaceM_ok ok h).len, ?_⟩
  unfold spaceM at h ⊢
  split
  · intro p hp
    simp only [idPages, List.mem_map, List.mem_range] at hp
    obtain ⟨i, hi, rfl⟩ := hp
    refine ⟨by simp only; omega, fun e => ?_⟩
    simp only at e
    omega
  · rename_i h0
    rw [if_neg h0] at h
    generalize l.getD (m.csr.getD 10 0 - 1).toNat ⟨0, 0⟩ = P at *
    cases hb : (decide (P.to < 0) || (andI P.kinds 1 == 0)) || (m.csr.getD 10 0 == 8) with
    | true => rw [hb] at h; simp at h
    | false =>
      intro p hp
      have hp : p ∈ (pageW mem P.to).map entryP := hp
      obtain ⟨w, hw, rfl⟩ := List.mem_map.1 hp
      have hw2 := isW_iff.1 (ok.ram.word w (List.mem_of_mem_drop (List.mem_of_mem_take hw)))
      exact entry_ok hw2.1 hw2.2
theorem EntOK.mono {a b : Int} {p : PageM} (h : EntOK a p) (hab : a ≤ b) : EntOK b p := ⟨⟨h.1.1, by have := h.1.2.1; omega, h.1.2.2.1, h.1.2.2.2⟩, h.2⟩
theorem and8 : ∀ a b : Fin 8, 0 ≤ andI (a.val : Int) (b.val : Int) ∧ andI (a.val : Int) (b.val : Int) ≤ 7 := by decide +kernel
theorem and_ok {a b : Int} (h1 : 0 ≤ a) (h2 : a ≤ 7) (h3 : 0 ≤ b) (h4 : b ≤ 7) : 0 ≤ andI a b ∧ andI a b ≤ 7 := by
  obtain ⟨n, rfl⟩ := Int.eq_ofNat_of_zero_le h1
  obtain ⟨k, rfl⟩ := Int.eq_ofNat_of_zero_le h3
  exact and8 ⟨n, by omega⟩ ⟨k, by omega⟩
theorem and8k : ∀ (a b : Fin 8) (k : Fin 3), (andI (a.val : Int) ([1, 2, 4].getD k.val 0) == 0) = false → ((andI (a.val : Int) (b.val : Int) != 0) && !(andI (andI (a.val : Int) (b.val : Int)) ([1, 2, 4].getD k.val 0) == 0)) = !(andI (b.val : Int) ([1, 2, 4].getD k.val 0) == 0) := by decide +kernel
theorem and_kind {a b k : Int} (h1 : 0 ≤ a) (h2 : a ≤ 7) (h3 : 0 ≤ b) (h4 : b ≤ 7) (hk : kindOk k = true) (ha : (andI a k == 0) = false) : ((andI a b != 0) && !(andI (andI a b) k == 0)) = !(andI b k == 0) := by
  obtain ⟨n, rfl⟩ := Int.eq_ofNat_of_zero_le h1
  obtain ⟨j, rfl⟩ := Int.eq_ofNat_of_zero_le h3
  rcases kindOk_or hk with rfl | rfl | rfl
  · exact and8k ⟨n, by omega⟩ ⟨j, by omega⟩ 0 ha
  · exact and8k ⟨n, by omega⟩ ⟨j, by omega⟩ 1 ha
  · exact and8k ⟨n, by omega⟩ ⟨j, by omega⟩ 2 ha
theorem PgsOK.ent {l : List PageM} {top : Int} (h : PgsOK l top) {i : Nat} (hi : i < 8) : -1 ≤ (l.getD i ⟨0, 0⟩).to ∧ (l.getD i ⟨0, 0⟩).to < top ∧ 0 ≤ (l.getD i ⟨0, 0⟩).kinds ∧ (l.getD i ⟨0, 0⟩).kinds ≤ 7 := by
  rw [getD_at _ (by rw [h.len]; exact hi)]
  exact h.at_ _ (List.getElem_mem (by rw [h.len]; exact hi : i < l.length))
theorem comp_ents {S l : List PageM} (hS : ∀ p ∈ S, EntOK 8 p) (hl : PgsOK l 24) : ∀ p ∈ compL S l, EntOK 24 p := fun p hp => by
  obtain ⟨a, ha, rfl⟩ := List.mem_map.1 hp
  have h1 := (hS a ha).1
  have hn : EntOK 24 ⟨-1, 0⟩ := ⟨⟨by decide, by decide, by decide, by decide⟩, fun _ => rfl⟩
  unfold compE
  split
  · rename_i hA
    have h2 := hl.ent (i := a.to.toNat) (by omega)
    generalize l.getD a.to.toNat ⟨0, 0⟩ = b at *
    split
    · split
      · have h3 := and_ok h1.2.2.1 h1.2.2.2 h2.2.2.1 h2.2.2.2
        exact ⟨⟨h2.1, h2.2.1, h3.1, h3.2⟩, fun e => by
          rename_i hB _
          have e : b.to = -1 := e
          omega⟩
      · exact hn
    · exact hn
  · exact hn
theorem comp_get {S l : List PageM} {i : Nat} (h : i < S.length) : (compL S l).getD i ⟨0, 0⟩ = compE l (S.getD i ⟨0, 0⟩) := by
  unfold compL
  rw [getD_at _ (by rw [List.length_map]; exact h), getD_at _ h, List.getElem_map]
theorem comp_walk {S l : List PageM} (hS : PgsOK S 8) (hl : PgsOK l 24) {at_ kind : Int} (hk : kindOk kind = true) (h0 : ¬ walkP S at_ kind < 0) : walkP (compL S l) at_ kind = walkP l (walkP S at_ kind) kind := by
  cases hin : inR at_ 0 63 with
  | false =>
    have e : walkP S at_ kind = -1 := by unfold walkP; rw [hin]; rfl
    rw [e] at h0
    exact absurd (by decide) h0
  | true =>
    have h2 := inR_iff.1 hin
    obtain ⟨d1, d2, d3⟩ := div8 h2.1 h2.2
    have dm : Int.tmod at_ 8 = at_ % 8 := Int.tmod_eq_emod_of_nonneg h2.1
    have hpS : pageAt S at_ = S.getD (Int.tdiv at_ 8).toNat ⟨0, 0⟩ := by unfold pageAt; rw [d1]
    have hpC : pageAt (compL S l) at_ = compE l (S.getD (Int.tdiv at_ 8).toNat ⟨0, 0⟩) := by
      unfold pageAt
      rw [d1, comp_get (by rw [hS.len]; omega)]
    have hent := hS.ent (i := (Int.tdiv at_ 8).toNat) (by omega)
    cases ha : decide ((pageAt S at_).to < 0) || (andI (pageAt S at_).kinds kind == 0) with
    | true =>
      have e : walkP S at_ kind = -1 := by unfold walkP; rw [hin, ha]; rfl
      rw [e] at h0
      exact absurd (by decide) h0
    | false =>
      have hg := walk_get hS (by decide) hin (of_decide_eq_false (Bool.or_eq_false_iff.1 ha).1)
      have hv : walkP S at_ kind = (pageAt S at_).to * 8 + Int.tmod at_ 8 := by
        unfold walkP
        rw [hin, ha]
        exact hg.1
      rw [hv]
      rw [hpS] at ha hg ⊢
      unfold walkP
      rw [hin, hpC]
      generalize S.getD (Int.tdiv at_ 8).toNat ⟨0, 0⟩ = a at *
      rw [Bool.or_eq_false_iff] at ha
      have ha0 : ¬ a.to < 0 := of_decide_eq_false ha.1
      have hin2 : inR (a.to * 8 + Int.tmod at_ 8) 0 63 = true := inR_iff.2 ⟨hg.2.1, by have := hg.2.2; omega⟩
      have hq : Int.tdiv (a.to * 8 + Int.tmod at_ 8) 8 = a.to := by rw [dm, Int.tdiv_eq_ediv_of_nonneg (by omega)]; omega
      have hm : Int.tmod (a.to * 8 + Int.tmod at_ 8) 8 = Int.tmod at_ 8 := by rw [Int.tmod_eq_emod_of_nonneg hg.2.1, dm]; omega
      have hpl : pageAt l (a.to * 8 + Int.tmod at_ 8) = l.getD a.to.toNat ⟨0, 0⟩ := by
        unfold pageAt
        rw [hq, wrap_i64 _ (by omega) (by omega)]
      have hb := hl.ent (i := a.to.toNat) (by omega)
      rw [hin2, hpl, hm]
      unfold compE
      rw [if_pos (by omega : a.to ≥ 0)]
      generalize l.getD a.to.toNat ⟨0, 0⟩ = b at *
      have hak := and_kind hent.2.2.1 hent.2.2.2 hb.2.2.1 hb.2.2.2 hk ha.2
      by_cases hB : b.to ≥ 0
      · rw [if_pos hB]
        have dB : decide (b.to < 0) = false := decide_eq_false (by omega)
        by_cases hK : (andI a.kinds b.kinds != 0) = true
        · rw [if_pos hK]
          rw [hK, Bool.true_and] at hak
          have hak2 : (andI (andI a.kinds b.kinds) kind == 0) = (andI b.kinds kind == 0) := by
            revert hak
            cases (andI (andI a.kinds b.kinds) kind == 0) <;> cases (andI b.kinds kind == 0) <;> simp
          show (bif !true then (-1 : Int) else bif decide (b.to < 0) || (andI (andI a.kinds b.kinds) kind == 0) then -1 else _) = _
          rw [dB, hak2]
        · rw [if_neg hK]
          rw [Bool.eq_false_iff.2 hK, Bool.false_and] at hak
          have hak2 : (andI b.kinds kind == 0) = true := by
            revert hak
            cases (andI b.kinds kind == 0) <;> simp
          rw [dB, hak2]
          rfl
      · rw [if_neg hB]
        have dB : decide (b.to < 0) = true := decide_eq_true (by omega)
        rw [dB]
        rfl
def ownW (S : List PageM) (at_ kind : Int) : Int × Int := bif kindOk kind then walkI S at_ kind else (3, 0)
theorem spaces_law {m : HartM} {l : List PageM} {mem : List Int} (hs : stepF m l mem = 0) (h : (spaceM m l mem).1 = 0) (at_ kind : Int) :
    ((ownW (spaceM m l mem).2 at_ kind).1 ≠ 0 → (placeOf m l mem at_ kind).1 = (ownW (spaceM m l mem).2 at_ kind).1) ∧
    ((ownW (spaceM m l mem).2 at_ kind).1 = 0 → (ownW (spaceM m l mem).2 at_ kind).2 ≥ 56 → (ownW (spaceM m l mem).2 at_ kind).2 ≤ 63 ∧ placeOf m l mem at_ kind = if kind = 4 then (9, 0) else (0, 1000 + ((ownW (spaceM m l mem).2 at_ kind).2 - 56))) ∧
    ((ownW (spaceM m l mem).2 at_ kind).1 = 0 → ¬ (ownW (spaceM m l mem).2 at_ kind).2 ≥ 56 → kindOk kind = true ∧ placeOf m l mem at_ kind = walkI (compL (spaceM m l mem).2 l) at_ kind) := by
  have ok := stepF_ok hs
  have hS := spaceM_ok ok h
  unfold placeOf ownW
  rw [if_pos hs]
  cases hk : kindOk kind with
  | false => exact ⟨fun _ => rfl, fun h0 => absurd h0 (show ¬ (3 : Int) = 0 by decide), fun h0 => absurd h0 (show ¬ (3 : Int) = 0 by decide)⟩
  | true =>
    have hkc := kindC_ne hk
    have hb := walkP_b hS (by decide) at_ kind
    have hcw := fun h0 => comp_walk (at_ := at_) hS ok.pgs hk h0
    unfold placeM
    rw [if_pos h]
    show ((walkI (spaceM m l mem).2 at_ kind).1 ≠ 0 → _) ∧ _
    unfold walkI
    generalize (spaceM m l mem).2 = S at *
    by_cases hw : walkP S at_ kind < 0
    · rw [if_pos hw]
      refine ⟨fun _ => ?_, fun h0 => absurd h0 hkc, fun h0 => absurd h0 hkc⟩
      show (if walkP S at_ kind < 0 then (kindC kind, (0 : Int)) else _).1 = _
      rw [if_pos hw]
      rfl
    · have hv : 0 ≤ walkP S at_ kind ∧ walkP S at_ kind < 64 := by
        rcases hb with hb | hb
        · omega
        · omega
      have hcw := hcw hw
      rw [if_neg hw]
      refine ⟨fun h0 => absurd rfl h0, fun _ h56 => ?_, fun _ h56 => ?_⟩
      · have h56 : walkP S at_ kind ≥ 56 := h56
        have h7 : Int.tdiv (walkP S at_ kind) 8 = 7 := by rw [Int.tdiv_eq_ediv_of_nonneg hv.1]; omega
        have hm : Int.tmod (walkP S at_ kind) 8 = walkP S at_ kind - 56 := by rw [Int.tmod_eq_emod_of_nonneg hv.1]; omega
        refine ⟨by show walkP S at_ kind ≤ 63; omega, ?_⟩
        show (if walkP S at_ kind < 0 then (kindC kind, (0 : Int)) else _) = _
        rw [if_neg hw, if_pos h7, hm]
        rfl
      · have h56 : ¬ walkP S at_ kind ≥ 56 := h56
        have h7 : ¬ Int.tdiv (walkP S at_ kind) 8 = 7 := by rw [Int.tdiv_eq_ediv_of_nonneg hv.1]; omega
        refine ⟨rfl, ?_⟩
        show (if walkP S at_ kind < 0 then (kindC kind, (0 : Int)) else _) = _
        rw [if_neg hw, if_neg h7, hcw]
        try rfl
end Go.Proofs.Ytfcekiehcchebaa.L

/- Pages walked: a contract. -/
set_option linter.unusedVariables false
set_option linter.unusedSimpArgs false
set_option maxRecDepth 100000
namespace Go.Proofs.Ytfcekiehcchebaa.L
open Go.RowKit
theorem c_impl_WalkPages (l : List PageM) (hl : l.length ≤ 1048576) (a kind : Int) : FnOK Try.prog 67 [.d (Go.Proofs.Ytfcekiehcchebaa.L.pages l), di a, di kind] (.r (irR (if pagesFault l 24 = 0 then (bif kindOk kind then walkI l a kind else (3, 0)) else (pagesFault l 24, 0)))) := by
  have c1 := c_impl_PagesFault l 24 hl
  have c2 := c_impl_kindCode kind
  have hk := kindC_ok kind
  obtain ⟨v, hv⟩ : ∃ v, v = (if pagesFault l 24 = 0 then (bif kindOk kind then walkI l a kind else (3, 0)) else (pagesFault l 24, 0)) := ⟨_, rfl⟩
  rw [← hv]
  by_cases h : pagesFault l 24 = 0
  rotate_left
  · rw [if_neg h] at hv
    subst hv
    generalize pagesFault l 24 = e at *
    refine fn_of lv67 Try.func67 rfl rfl (by kernel_rfl) rfl ?_
    refine .inl ⟨_, _, rfl, c1, rfl, ?_⟩
    refine bsplit_of_true (by simpa using h) ?_
    exact ⟨⟨rfl, rfl, trivial⟩, rfl⟩
  rw [if_pos h] at hv
  have c3 := c_impl_walk l 24 (pagesFault_ok h) (by omega) a kind
  rw [h] at c1
  cases hkk : kindOk kind with
  | false =>
    rw [hkk] at hv hk
    have hv : v = (3, 0) := hv
    subst hv
    refine fn_of lv67 Try.func67 rfl rfl (by kernel_rfl) rfl ?_
    refine .inl ⟨_, _, rfl, c1, rfl, ?_⟩
    repeat' (first | refine bsplit_true ?_ | refine bsplit_false ?_)
    refine .inl ⟨_, _, rfl, c2, rfl, ?_⟩
    refine bsplit_of_true hk ?_
    exact ⟨⟨rfl, rfl, trivial⟩, rfl⟩
  | true =>
    rw [hkk] at hv hk
    have hv : v = walkI l a kind := hv
    subst hv
    refine fn_of lv67 Try.func67 rfl rfl (by kernel_rfl) rfl ?_
    refine .inl ⟨_, _, rfl, c1, rfl, ?_⟩
    repeat' (first | refine bsplit_true ?_ | refine bsplit_false ?_)
    refine .inl ⟨_, _, rfl, c2, rfl, ?_⟩
    refine bsplit_of_false hk ?_
    refine .inl ⟨_, _, rfl, c3, rfl, ?_⟩
    exact ⟨⟨rfl, rfl, trivial⟩, rfl⟩
end Go.Proofs.Ytfcekiehcchebaa.L

/- Codes of bytes, as arguments read as data. -/
set_option linter.unusedVariables false
set_option linter.unusedSimpArgs false
set_option maxRecDepth 100000
namespace Go.Proofs.Ytfcekiehcchebaa.L
open Go.RowKit Go.ChangeShapes Go.WideShapes Go.ChangeAt
abbrev okByte (n : Int) : Prop := (Lit.int .u8 n).wf = true
theorem okByte_le {n : Int} (h : okByte n) : 0 ≤ n ∧ n ≤ 255 := by
  have h' : IntKind.u8.min ≤ n ∧ n ≤ IntKind.u8.max := by simpa [okByte, Lit.wf] using h
  have e : IntKind.u8.min = 0 := by decide
  have e2 : IntKind.u8.max = 255 := by decide
  rw [e, e2] at h'
  exact h'
abbrev okBytes (l : List Int) : Prop := l.length * 1 ≤ reachBytes ∧ ∀ x ∈ l, okByte x
theorem okBytes.code {l : List Int} (h : okBytes l) (hb : decide ((l.length : Int) > 1048576) = false) : okCode l := ⟨by simp at hb; omega, fun x hx => okByte_le (h.2 x hx)⟩
theorem reads_uint8 : ReadsT Try.prog 5 1 Int (fun n => [.v (.int .u8 n)]) okByte := ReadsT.int Try.underlying5 (by kernel_rfl)
theorem reads_bytes : ReadsT Try.prog 49 1 (List Int) (fun l => [bytesD l]) okBytes := ReadsT.slice reads_uint8 Try.underlying49 (by kernel_rfl) (by decide) 0 (by kernel_rfl)
end Go.Proofs.Ytfcekiehcchebaa.L

/- The law FnSpaces answers true. -/
set_option linter.unusedVariables false
set_option linter.unusedSimpArgs false
set_option maxRecDepth 100000
namespace Go.Proofs.Ytfcekiehcchebaa.L
open Go.RowKit Go.ChangeShapes Go.WideShapes Go.ChangeAt
theorem c_spec_l4DrawKindM (c : List Int) (hc : okCode c) (p : Int) (hp : 0 ≤ p) (hp2 : p ≤ 1099511627) : MutOK Try.prog 115 [.ptr 0 0] 1 [(0, srcBox c p)] (di (pk c p [1, 2, 4, 1, 0, 3])) 1 [(0, srcBox c (p + 1))] := by
  refine mut_fn_of lv115 Try.func115 rfl rfl (by kernel_rfl) rfl [] ?_
  refine .inr ⟨rfl, use_mut ⟨_, _, _, _, _, _, rfl, rfl, pick6 c hc p 1 2 4 1 0 3 (by omega) (by omega), rfl, ?_⟩⟩
  exact chk_intro (by kernel_rfl) ⟨tellV_v rfl rfl, tellHp_box rfl rfl ⟨DLe.refl _, rfl, trivial⟩ tellHp_nil⟩
theorem comp_len (S l : List PageM) : (compL S l).length = S.length := by unfold compL; rw [List.length_map]
theorem step_pages {m : HartM} {l : List PageM} {mem : List Int} (h : stepF m l mem = 0) : pagesFault l 24 = 0 := by
  unfold stepF at h
  split at h
  · split at h
    · assumption
    · exact h
  · rename_i h0
    exact absurd h h0
theorem drop_pagesF (l : List PageM) (i : Nat) : pagesF l (1 + i) = pagesF (l.drop 1) i := by
  show pageD (l.getD (1 + i) ⟨0, 0⟩) = pageD ((l.drop 1).getD i ⟨0, 0⟩)
  simp [List.getD, List.getElem?_drop, Nat.add_comm]
set_option maxHeartbeats 1600000 in
theorem c_spec_DrawPlaceOf (c : List Int) (hc : okCode c) : MutS Try.prog 66 [.d (bytesD c)] 0 []
    (fun lv m' hp1 => ∃ (m : HartM) (l : List PageM) (mem : List Int) (L : LV) (a k : Int), m.small ∧ l.length = 8 ∧ mem.length ≤ 1000 ∧ (L = .row 0 ∨ L = .sub 0 2 1 8) ∧ lv = .tup [hartLV m, L, .d (ints mem), di a, di k] ∧ m' = 1 ∧ hp1 = [(0, .row 129 2 8 (pagesF l))]) := by
  refine mutS_fn_of lv66 Try.func66 rfl rfl (by kernel_rfl) rfl ?_
  refine .inr ⟨rfl, use_mut ⟨_, _, _, _, _, _, rfl, rfl, c_spec_l1Source c, rfl, ?_⟩⟩
  refine .inr ⟨rfl, use_mutS ⟨_, _, _, _, rfl, rfl, c_spec_l10World c hc, rfl, ?_⟩⟩
  rintro _ _ _ ⟨m, l, mem, q, L, hs, hf, hl, hm, hq1, hq2, hL, rfl, rfl, rfl⟩
  rcases hL with rfl | rfl
  · refine ⟨rfl, ?_⟩
    refine .inr ⟨rfl, use_mutS ⟨_, _, _, _, rfl, rfl, c_spec_l4Place c hc q (by omega) (by omega), rfl, ?_⟩⟩
    rintro _ _ _ ⟨a, rfl, rfl, rfl⟩
    refine ⟨rfl, ?_⟩
    refine .inr ⟨_, _, use_mut ⟨_, _, _, _, _, _, rfl, rfl, c_spec_l4DrawKindM c hc (q + 4) (by omega) (by omega), rfl, ⟨rfl, rfl⟩⟩, ?_⟩
    refine chk_intro (by kernel_rfl) ?_
    exact ⟨_, _, _, [(0, 8224)], ⟨m, l, mem, _, a, pk c (q + 4) [1, 2, 4, 1, 0, 3], hs, hl, hm, .inl rfl, rfl, rfl, rfl⟩,
      chk_intro (by kernel_rfl) ⟨⟨⟨DLe.refl _, rfl, DLe.refl _, rfl, rfl, rfl, rfl, DLe.refl _, DLe.refl _, trivial⟩, rfl, DLe.refl _, rfl, rfl, trivial⟩, tellHp_row rfl rfl hl (fun j hj => rfl) tellHp_nil⟩⟩
  · refine ⟨rfl, ?_⟩
    refine .inr ⟨rfl, use_mutS ⟨_, _, _, _, rfl, rfl, c_spec_l4Place c hc q (by omega) (by omega), rfl, ?_⟩⟩
    rintro _ _ _ ⟨a, rfl, rfl, rfl⟩
    refine ⟨rfl, ?_⟩
    refine .inr ⟨_, _, use_mut ⟨_, _, _, _, _, _, rfl, rfl, c_spec_l4DrawKindM c hc (q + 4) (by omega) (by omega), rfl, ⟨rfl, rfl⟩⟩, ?_⟩
    refine chk_intro (by kernel_rfl) ?_
    exact ⟨_, _, _, [(0, 8224)], ⟨m, l, mem, _, a, pk c (q + 4) [1, 2, 4, 1, 0, 3], hs, hl, hm, .inr rfl, rfl, rfl, rfl⟩,
      chk_intro (by kernel_rfl) ⟨⟨⟨DLe.refl _, rfl, DLe.refl _, rfl, rfl, rfl, rfl, DLe.refl _, DLe.refl _, trivial⟩, ⟨rfl, rfl, rfl, rfl⟩, DLe.refl _, rfl, rfl, trivial⟩, tellHp_row rfl rfl hl (fun j hj => rfl) tellHp_nil⟩⟩
set_option maxHeartbeats 6400000 in
theorem c_laws_FnSpaces (c : List Int) (ho : okBytes c) : FnOK Try.prog 12 [.d (bytesD c)] (rb true) := by
  have hrb := reach_eq
  have hlen : c.length * 1 ≤ 140737488351232 := by have := ho.1; omega
  refine fn_of lv12 Try.func12 rfl rfl (by kernel_rfl) rfl ?_
  refine .inl ⟨_, _, rfl, c_laws_lwBig c (by omega), rfl, ?_⟩
  refine bsplit_intro (fun h => ?_) (fun h => ?_)
  · exact ⟨⟨rfl, trivial⟩, rfl⟩
  have hc := ho.code h
  refine .inr ⟨rfl, use_mutS ⟨_, _, _, _, rfl, rfl, c_spec_DrawPlaceOf c hc, rfl, ?_⟩⟩
  rintro _ _ _ ⟨m, l, mem, L, a, k, hs, hl, hm, hL, rfl, rfl, rfl⟩
  rcases hL with rfl | rfl
  · refine ⟨rfl, ?_⟩
    obtain ⟨l', hX, hll⟩ : ∃ l', DLe (.l 8 (pagesF l)) (Go.Proofs.Ytfcekiehcchebaa.L.pages l') ∧ l'.length ≤ 1048576 := ⟨l, DLe.l hl.symm (fun i hi => rfl), by omega⟩
    have cp := (c_impl_PlaceOf m hs l' hll mem (by omega) a k).weak (xs := [hartLV m, .d (.l 8 (pagesF l)), .d (ints mem), di a, di k]) ⟨LVLe.refl _, LVLe.d hX, LVLe.refl _, LVLe.refl _, LVLe.refl _, trivial⟩
    have csp := (c_spec_PlaceOf m hs l' hll mem (by omega) a k).weak (xs := [hartLV m, .d (.l 8 (pagesF l)), .d (ints mem), di a, di k]) ⟨LVLe.refl _, LVLe.d hX, LVLe.refl _, LVLe.refl _, LVLe.refl _, trivial⟩
    have cs := (c_impl_SpaceOf m hs l' hll mem (by omega)).weak (xs := [hartLV m, .d (.l 8 (pagesF l)), .d (ints mem)]) ⟨LVLe.refl _, LVLe.d hX, LVLe.refl _, trivial⟩
    have css := (c_spec_SpaceOf m hs l' hll mem (by omega)).weak (xs := [hartLV m, .d (.l 8 (pagesF l)), .d (ints mem)]) ⟨LVLe.refl _, LVLe.d hX, LVLe.refl _, trivial⟩
    by_cases hsp : (spaceOf m l' mem).1 = 0
    rotate_left
    · generalize spaceOf m l' mem = s at *
      generalize placeOf m l' mem a k = p at *
      obtain ⟨s1, s2⟩ := s
      obtain ⟨p1, p2⟩ := p
      have hsp : ¬ s1 = 0 := hsp
      refine .inl ⟨_, _, rfl, cp, rfl, ?_⟩
      refine .inl ⟨_, _, rfl, cs, rfl, ?_⟩
      refine bsplit_of_true (by simpa using hsp) ?_
      refine .inl ⟨_, _, rfl, css, rfl, ?_⟩
      refine bsplit_of_true (show (s1 == s1) = true by simp) ?_
      repeat' (first | refine bsplit_of_true (show (s1 == s1) = true by simp) ?_ | refine bsplit_true ?_ | refine bsplit_false ?_)
      refine .inl ⟨_, _, rfl, csp, rfl, ?_⟩
      repeat' (first | refine bsplit_of_true (show (s1 == s1) = true by simp) ?_ | refine bsplit_true ?_ | refine bsplit_false ?_)
      refine chk_intro (by kernel_rfl) ?_
      exact ⟨⟨congrArg Value.bool (show (p1 == p1) = true by simp), trivial⟩, rfl⟩
    have hst : stepF m l' mem = 0 := by
      unfold spaceOf at hsp
      split at hsp
      · assumption
      · exact hsp
    have hsm : (spaceM m l' mem).1 = 0 := by unfold spaceOf at hsp; rw [if_pos hst] at hsp; exact hsp
    have hS := space_ents (stepF_ok hst) hsm
    have hlaw := spaces_law hst hsm a k
    have hpl := (stepF_ok hst).pgs
    have hpf := step_pages hst
    have hso : spaceOf m l' mem = (0, (spaceM m l' mem).2) := by unfold spaceOf; rw [if_pos hst]; exact Prod.ext hsm rfl
    rw [hso] at cs css
    have hce := comp_ents (l := l') hS.2 hpl
    generalize (spaceM m l' mem).2 = S at *
    have f8 : pagesFault S 8 = 0 := pagesFault_of (by decide) hS.1 hS.2
    have f24 : pagesFault S 24 = 0 := pagesFault_of (by decide) hS.1 (fun p hp => (hS.2 p hp).mono (by decide))
    have fc : pagesFault (compL S l') 24 = 0 := pagesFault_of (by decide) (by rw [comp_len]; exact hS.1) hce
    have cw := c_impl_WalkPages S (by omega) a k
    have cc := (c_impl_ComposePages S l' (by omega) hll f8 hpf).weak (xs := [.d (Go.Proofs.Ytfcekiehcchebaa.L.pages S), .d (.l 8 (pagesF l))]) ⟨LVLe.refl _, LVLe.d hX, trivial⟩
    have cwc := c_impl_WalkPages (compL S l') (by rw [comp_len]; omega) a k
    rw [if_pos f24] at cw
    rw [if_pos fc] at cwc
    obtain ⟨q1, q2, q3⟩ := hlaw
    have eo : (bif kindOk k then walkI S a k else (3, 0)) = ownW S a k := rfl
    rw [eo] at cw
    generalize placeOf m l' mem a k = p at *
    generalize ownW S a k = w at *
    obtain ⟨p1, p2⟩ := p
    obtain ⟨w1, w2⟩ := w
    have h8 : ((S.length : Int) != 8) = false := by rw [hS.1]; rfl
    have hpp : (p1 != p1) = false := by simp
    by_cases hw : w1 = 0
    rotate_left
    · have e := q1 hw
      have e : p1 = w1 := e
      subst e
      refine .inl ⟨_, _, rfl, cp, rfl, ?_⟩
      refine .inl ⟨_, _, rfl, cs, rfl, ?_⟩
      repeat' (first | refine bsplit_true ?_ | refine bsplit_false ?_)
      refine .inl ⟨_, _, rfl, cw, rfl, ?_⟩
      refine bsplit_of_false h8 ?_
      repeat' (first | refine bsplit_of_false h8 ?_ | refine bsplit_true ?_ | refine bsplit_false ?_)
      refine .inl ⟨_, _, rfl, csp, rfl, ?_⟩
      repeat' (first | refine bsplit_of_false h8 ?_ | refine bsplit_true ?_ | refine bsplit_false ?_ | refine chk_intro (by kernel_rfl) ?_)
      first | refine bsplit_of_false hpp ?_ | skip
      refine bsplit_of_true (by simpa using hw) ?_
      exact ⟨⟨congrArg Value.bool (show (p1 == p1) = true by simp), trivial⟩, rfl⟩
    subst hw
    by_cases h56 : w2 ≥ 56
    · obtain ⟨h63, e⟩ := q2 rfl h56
      have h56 : w2 ≥ 56 := h56
      have h63 : w2 ≤ 63 := h63
      have hwr : IntKind.i64.wrap (IntKind.i64.wrap (1000 + w2) - 56) = 1000 + (w2 - 56) := by rw [wrap_i64 (1000 + w2) (by omega) (by omega), wrap_i64 _ (by omega) (by omega)]; omega
      by_cases hk4 : k = 4
      · rw [if_pos hk4] at e
        obtain ⟨rfl, rfl⟩ := Prod.mk.inj e
        have e4 : (k == 4) = true := by simp [hk4]
        refine .inl ⟨_, _, rfl, cp, rfl, ?_⟩
        refine .inl ⟨_, _, rfl, cs, rfl, ?_⟩
        repeat' (first | refine bsplit_true ?_ | refine bsplit_false ?_)
        refine .inl ⟨_, _, rfl, cw, rfl, ?_⟩
        refine bsplit_of_false h8 ?_
        repeat' (first | refine bsplit_of_false h8 ?_ | refine bsplit_true ?_ | refine bsplit_false ?_)
        refine .inl ⟨_, _, rfl, csp, rfl, ?_⟩
        repeat' (first | refine bsplit_of_false h8 ?_ | refine bsplit_true ?_ | refine bsplit_false ?_ | refine chk_intro (by kernel_rfl) ?_)
        first | refine bsplit_of_false hpp ?_ | skip
        repeat' (first | refine bsplit_true ?_ | refine bsplit_false ?_)
        refine bsplit_of_true (decide_eq_true h56) ?_
        refine bsplit_of_true (show ((k == 4) == ((9 : Int) == 9)) = true by rw [e4]; rfl) ?_
        repeat' (first | refine bsplit_true ?_ | refine bsplit_false ?_)
        exact ⟨⟨congrArg Value.bool (show ((9 : Int) != 0) = true by rfl), trivial⟩, rfl⟩
      · rw [if_neg hk4] at e
        obtain ⟨rfl, rfl⟩ := Prod.mk.inj e
        have e4 : (k == 4) = false := by simp [hk4]
        refine .inl ⟨_, _, rfl, cp, rfl, ?_⟩
        refine .inl ⟨_, _, rfl, cs, rfl, ?_⟩
        repeat' (first | refine bsplit_true ?_ | refine bsplit_false ?_)
        refine .inl ⟨_, _, rfl, cw, rfl, ?_⟩
        refine bsplit_of_false h8 ?_
        repeat' (first | refine bsplit_of_false h8 ?_ | refine bsplit_true ?_ | refine bsplit_false ?_)
        refine .inl ⟨_, _, rfl, csp, rfl, ?_⟩
        repeat' (first | refine bsplit_of_false h8 ?_ | refine bsplit_true ?_ | refine bsplit_false ?_ | refine chk_intro (by kernel_rfl) ?_)
        first | refine bsplit_of_false hpp ?_ | skip
        repeat' (first | refine bsplit_true ?_ | refine bsplit_false ?_)
        refine bsplit_of_true (decide_eq_true h56) ?_
        refine bsplit_of_true (show ((k == 4) == ((0 : Int) == 9)) = true by rw [e4]; rfl) ?_
        repeat' (first | refine bsplit_true ?_ | refine bsplit_false ?_)
        exact ⟨⟨congrArg Value.bool (show (1000 + (w2 - 56) == IntKind.i64.wrap (IntKind.i64.wrap (1000 + w2) - 56)) = true by rw [hwr]; simp), trivial⟩, rfl⟩
    · obtain ⟨hkk, e⟩ := q3 rfl h56
      have h56 : ¬ w2 ≥ 56 := h56
      rw [hkk, cond_true, ← e] at cwc
      refine .inl ⟨_, _, rfl, cp, rfl, ?_⟩
      refine .inl ⟨_, _, rfl, cs, rfl, ?_⟩
      repeat' (first | refine bsplit_true ?_ | refine bsplit_false ?_)
      refine .inl ⟨_, _, rfl, cw, rfl, ?_⟩
      refine bsplit_of_false h8 ?_
      repeat' (first | refine bsplit_of_false h8 ?_ | refine bsplit_true ?_ | refine bsplit_false ?_)
      refine .inl ⟨_, _, rfl, csp, rfl, ?_⟩
      repeat' (first | refine bsplit_of_false h8 ?_ | refine bsplit_true ?_ | refine bsplit_false ?_ | refine chk_intro (by kernel_rfl) ?_)
      first | refine bsplit_of_false hpp ?_ | skip
      repeat' (first | refine bsplit_true ?_ | refine bsplit_false ?_)
      refine bsplit_of_false (decide_eq_false h56) ?_
      refine .inl ⟨_, _, rfl, cc, rfl, ?_⟩
      refine .inl ⟨_, _, rfl, cwc, rfl, ?_⟩
      exact ⟨⟨congrArg Value.bool (show ([p1, p2] == [p1, p2]) = true by simp), trivial⟩, rfl⟩
  · refine ⟨rfl, ?_⟩
    obtain ⟨l', hX, hll⟩ : ∃ l', DLe (.l (8 - 1) (fun i => pagesF l (1 + i))) (Go.Proofs.Ytfcekiehcchebaa.L.pages l') ∧ l'.length ≤ 1048576 := ⟨l.drop 1, DLe.l (show 8 - 1 = (l.drop 1).length by rw [List.length_drop, hl]) (fun i hi => drop_pagesF l i), by rw [List.length_drop]; omega⟩
    have cp := (c_impl_PlaceOf m hs l' hll mem (by omega) a k).weak (xs := [hartLV m, .d (.l (8 - 1) (fun i => pagesF l (1 + i))), .d (ints mem), di a, di k]) ⟨LVLe.refl _, LVLe.d hX, LVLe.refl _, LVLe.refl _, LVLe.refl _, trivial⟩
    have csp := (c_spec_PlaceOf m hs l' hll mem (by omega) a k).weak (xs := [hartLV m, .d (.l (8 - 1) (fun i => pagesF l (1 + i))), .d (ints mem), di a, di k]) ⟨LVLe.refl _, LVLe.d hX, LVLe.refl _, LVLe.refl _, LVLe.refl _, trivial⟩
    have cs := (c_impl_SpaceOf m hs l' hll mem (by omega)).weak (xs := [hartLV m, .d (.l (8 - 1) (fun i => pagesF l (1 + i))), .d (ints mem)]) ⟨LVLe.refl _, LVLe.d hX, LVLe.refl _, trivial⟩
    have css := (c_spec_SpaceOf m hs l' hll mem (by omega)).weak (xs := [hartLV m, .d (.l (8 - 1) (fun i => pagesF l (1 + i))), .d (ints mem)]) ⟨LVLe.refl _, LVLe.d hX, LVLe.refl _, trivial⟩
    by_cases hsp : (spaceOf m l' mem).1 = 0
    rotate_left
    · generalize spaceOf m l' mem = s at *
      generalize placeOf m l' mem a k = p at *
      obtain ⟨s1, s2⟩ := s
      obtain ⟨p1, p2⟩ := p
      have hsp : ¬ s1 = 0 := hsp
      refine .inl ⟨_, _, rfl, cp, rfl, ?_⟩
      refine .inl ⟨_, _, rfl, cs, rfl, ?_⟩
      refine bsplit_of_true (by simpa using hsp) ?_
      refine .inl ⟨_, _, rfl, css, rfl, ?_⟩
      refine bsplit_of_true (show (s1 == s1) = true by simp) ?_
      repeat' (first | refine bsplit_of_true (show (s1 == s1) = true by simp) ?_ | refine bsplit_true ?_ | refine bsplit_false ?_)
      refine .inl ⟨_, _, rfl, csp, rfl, ?_⟩
      repeat' (first | refine bsplit_of_true (show (s1 == s1) = true by simp) ?_ | refine bsplit_true ?_ | refine bsplit_false ?_)
      refine chk_intro (by kernel_rfl) ?_
      exact ⟨⟨congrArg Value.bool (show (p1 == p1) = true by simp), trivial⟩, rfl⟩
    have hst : stepF m l' mem = 0 := by
      unfold spaceOf at hsp
      split at hsp
      · assumption
      · exact hsp
    have hsm : (spaceM m l' mem).1 = 0 := by unfold spaceOf at hsp; rw [if_pos hst] at hsp; exact hsp
    have hS := space_ents (stepF_ok hst) hsm
    have hlaw := spaces_law hst hsm a k
    have hpl := (stepF_ok hst).pgs
    have hpf := step_pages hst
    have hso : spaceOf m l' mem = (0, (spaceM m l' mem).2) := by unfold spaceOf; rw [if_pos hst]; exact Prod.ext hsm rfl
    rw [hso] at cs css
    have hce := comp_ents (l := l') hS.2 hpl
    generalize (spaceM m l' mem).2 = S at *
    have f8 : pagesFault S 8 = 0 := pagesFault_of (by decide) hS.1 hS.2
    have f24 : pagesFault S 24 = 0 := pagesFault_of (by decide) hS.1 (fun p hp => (hS.2 p hp).mono (by decide))
    have fc : pagesFault (compL S l') 24 = 0 := pagesFault_of (by decide) (by rw [comp_len]; exact hS.1) hce
    have cw := c_impl_WalkPages S (by omega) a k
    have cc := (c_impl_ComposePages S l' (by omega) hll f8 hpf).weak (xs := [.d (Go.Proofs.Ytfcekiehcchebaa.L.pages S), .d (.l (8 - 1) (fun i => pagesF l (1 + i)))]) ⟨LVLe.refl _, LVLe.d hX, trivial⟩
    have cwc := c_impl_WalkPages (compL S l') (by rw [comp_len]; omega) a k
    rw [if_pos f24] at cw
    rw [if_pos fc] at cwc
    obtain ⟨q1, q2, q3⟩ := hlaw
    have eo : (bif kindOk k then walkI S a k else (3, 0)) = ownW S a k := rfl
    rw [eo] at cw
    generalize placeOf m l' mem a k = p at *
    generalize ownW S a k = w at *
    obtain ⟨p1, p2⟩ := p
    obtain ⟨w1, w2⟩ := w
    have h8 : ((S.length : Int) != 8) = false := by rw [hS.1]; rfl
    have hpp : (p1 != p1) = false := by simp
    by_cases hw : w1 = 0
    rotate_left
    · have e := q1 hw
      have e : p1 = w1 := e
      subst e
      refine .inl ⟨_, _, rfl, cp, rfl, ?_⟩
      refine .inl ⟨_, _, rfl, cs, rfl, ?_⟩
      repeat' (first | refine bsplit_true ?_ | refine bsplit_false ?_)
      refine .inl ⟨_, _, rfl, cw, rfl, ?_⟩
      refine bsplit_of_false h8 ?_
      repeat' (first | refine bsplit_of_false h8 ?_ | refine bsplit_true ?_ | refine bsplit_false ?_)
      refine .inl ⟨_, _, rfl, csp, rfl, ?_⟩
      repeat' (first | refine bsplit_of_false h8 ?_ | refine bsplit_true ?_ | refine bsplit_false ?_ | refine chk_intro (by kernel_rfl) ?_)
      first | refine bsplit_of_false hpp ?_ | skip
      refine bsplit_of_true (by simpa using hw) ?_
      exact ⟨⟨congrArg Value.bool (show (p1 == p1) = true by simp), trivial⟩, rfl⟩
    subst hw
    by_cases h56 : w2 ≥ 56
    · obtain ⟨h63, e⟩ := q2 rfl h56
      have h56 : w2 ≥ 56 := h56
      have h63 : w2 ≤ 63 := h63
      have hwr : IntKind.i64.wrap (IntKind.i64.wrap (1000 + w2) - 56) = 1000 + (w2 - 56) := by rw [wrap_i64 (1000 + w2) (by omega) (by omega), wrap_i64 _ (by omega) (by omega)]; omega
      by_cases hk4 : k = 4
      · rw [if_pos hk4] at e
        obtain ⟨rfl, rfl⟩ := Prod.mk.inj e
        have e4 : (k == 4) = true := by simp [hk4]
        refine .inl ⟨_, _, rfl, cp, rfl, ?_⟩
        refine .inl ⟨_, _, rfl, cs, rfl, ?_⟩
        repeat' (first | refine bsplit_true ?_ | refine bsplit_false ?_)
        refine .inl ⟨_, _, rfl, cw, rfl, ?_⟩
        refine bsplit_of_false h8 ?_
        repeat' (first | refine bsplit_of_false h8 ?_ | refine bsplit_true ?_ | refine bsplit_false ?_)
        refine .inl ⟨_, _, rfl, csp, rfl, ?_⟩
        repeat' (first | refine bsplit_of_false h8 ?_ | refine bsplit_true ?_ | refine bsplit_false ?_ | refine chk_intro (by kernel_rfl) ?_)
        first | refine bsplit_of_false hpp ?_ | skip
        repeat' (first | refine bsplit_true ?_ | refine bsplit_false ?_)
        refine bsplit_of_true (decide_eq_true h56) ?_
        refine bsplit_of_true (show ((k == 4) == ((9 : Int) == 9)) = true by rw [e4]; rfl) ?_
        repeat' (first | refine bsplit_true ?_ | refine bsplit_false ?_)
        exact ⟨⟨congrArg Value.bool (show ((9 : Int) != 0) = true by rfl), trivial⟩, rfl⟩
      · rw [if_neg hk4] at e
        obtain ⟨rfl, rfl⟩ := Prod.mk.inj e
        have e4 : (k == 4) = false := by simp [hk4]
        refine .inl ⟨_, _, rfl, cp, rfl, ?_⟩
        refine .inl ⟨_, _, rfl, cs, rfl, ?_⟩
        repeat' (first | refine bsplit_true ?_ | refine bsplit_false ?_)
        refine .inl ⟨_, _, rfl, cw, rfl, ?_⟩
        refine bsplit_of_false h8 ?_
        repeat' (first | refine bsplit_of_false h8 ?_ | refine bsplit_true ?_ | refine bsplit_false ?_)
        refine .inl ⟨_, _, rfl, csp, rfl, ?_⟩
        repeat' (first | refine bsplit_of_false h8 ?_ | refine bsplit_true ?_ | refine bsplit_false ?_ | refine chk_intro (by kernel_rfl) ?_)
        first | refine bsplit_of_false hpp ?_ | skip
        repeat' (first | refine bsplit_true ?_ | refine bsplit_false ?_)
        refine bsplit_of_true (decide_eq_true h56) ?_
        refine bsplit_of_true (show ((k == 4) == ((0 : Int) == 9)) = true by rw [e4]; rfl) ?_
        repeat' (first | refine bsplit_true ?_ | refine bsplit_false ?_)
        exact ⟨⟨congrArg Value.bool (show (1000 + (w2 - 56) == IntKind.i64.wrap (IntKind.i64.wrap (1000 + w2) - 56)) = true by rw [hwr]; simp), trivial⟩, rfl⟩
    · obtain ⟨hkk, e⟩ := q3 rfl h56
      have h56 : ¬ w2 ≥ 56 := h56
      rw [hkk, cond_true, ← e] at cwc
      refine .inl ⟨_, _, rfl, cp, rfl, ?_⟩
      refine .inl ⟨_, _, rfl, cs, rfl, ?_⟩
      repeat' (first | refine bsplit_true ?_ | refine bsplit_false ?_)
      refine .inl ⟨_, _, rfl, cw, rfl, ?_⟩
      refine bsplit_of_false h8 ?_
      repeat' (first | refine bsplit_of_false h8 ?_ | refine bsplit_true ?_ | refine bsplit_false ?_)
      refine .inl ⟨_, _, rfl, csp, rfl, ?_⟩
      repeat' (first | refine bsplit_of_false h8 ?_ | refine bsplit_true ?_ | refine bsplit_false ?_ | refine chk_intro (by kernel_rfl) ?_)
      first | refine bsplit_of_false hpp ?_ | skip
      repeat' (first | refine bsplit_true ?_ | refine bsplit_false ?_)
      refine bsplit_of_false (decide_eq_false h56) ?_
      refine .inl ⟨_, _, rfl, cc, rfl, ?_⟩
      refine .inl ⟨_, _, rfl, cwc, rfl, ?_⟩
      exact ⟨⟨congrArg Value.bool (show ([p1, p2] == [p1, p2]) = true by simp), trivial⟩, rfl⟩
end Go.Proofs.Ytfcekiehcchebaa.L

/- The law FnSpaces answers true at every input that its statement lets in. -/
set_option linter.unusedVariables false
set_option maxRecDepth 100000
namespace Go.Proofs.Ytfcekiehcchebaa.L.FnSpaces
open Go.RowKit Go.ChangeShapes Go.WideShapes Go.ChangeAt
theorem lifted (os : Os) (started : os.Started) (H : Type) (enc : TypeId × Value → H) :
    ReturnsInHanded {} Try.checked os 12 .any (Rows.fnSpacesSpec.pre6 enc Try.prog Try.f12 Rows.fnSpacesRow.domain false) (Rows.fnSpacesSpec.post enc Try.prog Try.f12 false true false false) := by
  refine returnsInHanded_of_change_sized (C := Try.checked) own started (by kernel_rfl) Try.func12
    (ChangeSpec.witness6 (enc := enc) (C := Try.checked) false ⟨#[], #[.slice none 0 0], []⟩ 8 (by kernel_rfl) (by kernel_rfl) (by kernel_rfl) (by kernel_rfl)) ?_
  intro W base args ds gs before hval0 hW hcnd hsz0 _
  have hsz : (DataW.weightsEach Try.prog (Try.f12.params.toList ++ Rows.fnSpacesSpec.plain.varTypes Try.prog) (ds ++ gs)).all (· ≤ reachBytes) = true := hsz0
  have hval : ∀ (j : Nat) t v, Try.f12.params[j]? = some t → args[j]? = some v → Value.okWide Try.prog W .any base t v := hval0
  have hW' := hW
  obtain ⟨p, q, hA0, hV, rfl, hfz, hnd⟩ := hW
  have hA : DataW.TrodAll enc Try.prog W 0 (fun _ => true) true Try.f12.params.toList args.toList ds p := hA0
  rw [Try.params12] at hA hval hsz
  obtain ⟨v0, vs0, d0, ds0, p0, q0, hargs, rfl, rfl, h0, r0⟩ := trodAll_cons hA
  obtain ⟨rfl, rfl, rfl⟩ := trodAll_nil r0
  obtain rfl : args = #[v0] := by cases args; simp_all
  obtain ⟨rfl, rfl⟩ := trodVars_none hV
  have hsm : ∀ k ∈ DataW.weightsEach Try.prog ([49] ++ Rows.fnSpacesSpec.plain.varTypes Try.prog) ([d0] ++ []), k ≤ reachBytes := fun k hk => by simpa using List.all_eq_true.1 hsz k hk
  have k0 := h0
  have lt0 : ∀ x ∈ p0, x.block < W.heap.size := by obtain ⟨m, hm⟩ := k0; exact DataW.trod_lt m _ _ _ hm
  have c0 : v0.cells = #[v0] := by have z := okWide_slice Try.underlying49 (hval 0 49 v0 rfl rfl); (first | (obtain ⟨_, rfl⟩ := z; rfl) | (obtain ⟨_, _, _, rfl⟩ := z; rfl))
  obtain ⟨m0, hm0, hvr0⟩ := reads_bytes.one c0 h0 (fun k hk => hsm k (DataW.weights_mem_each (j := 0) rfl rfl k hk))
  refine ((c_laws_FnSpaces m0 hm0).calls W (Mem W) [v0] ⟨fun b hb => hb, (fun g k zs h => by cases h), fun g b h => by cases h⟩ rfl (fun j hj => ?_)).mono fun e W' ⟨v, he, bel, hrr⟩ => ?_
  · match j, hj with
    | 0, _ => exact hvr0
    | j + 1, hj => exact absurd hj (by simp)
  · obtain ⟨us, J, hl, rfl, hJ, hok, _, _⟩ := hrr.ex
    have h1 := hok 0 _ rfl
    have h2 : RV.val us (rb true) = .bool true := h1
    rw [h2] at he
    subst he
    exact ⟨_, rfl, _, _, _, [], _, [], hW', trodAll_mk1 (shut_bool Try.underlying4 _), (trodAll_cons_mk (Below.trod laidOut (by kernel_rfl) (of_decide_eq_true (by kernel_rfl)) k0 bel lt0) trodAll_mk0), rfl, bel.frame _, fun h => by cases h⟩
theorem over : Rows.fnSpacesRow.holds Try.pinned (OpenSpec.ofChange Rows.fnSpacesSpec) :=
  OpenClaim.holds_of_wide 12 Try.f12 rfl rfl rfl rfl rfl rfl rfl ⟨rfl, rfl, rfl, rfl, rfl⟩ rfl rfl rfl rfl rfl (by kernel_rfl) Try.func12 (by kernel_rfl)
    (of_decide_eq_true (by kernel_rfl)) (by unfold Func.isWrapper; first | (rw [if_pos (by decide +kernel)]; kernel_rfl) | (rw [if_neg (by decide +kernel)]; exact ⟨rfl, rfl⟩))
    (fun os started H enc _ => lifted os started H enc)
end Go.Proofs.Ytfcekiehcchebaa.L.FnSpaces
namespace Go.Proofs.Ytfcekiehcchebaa
theorem fnSpaces_holds : Rows.FnSpacesSaid := L.FnSpaces.over
#print axioms fnSpaces_holds
end Go.Proofs.Ytfcekiehcchebaa
