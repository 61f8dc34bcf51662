/- What the functions compute that draw a machine: contracts. -/
import Derived.Test.YtfcekiehcchebaaDa
set_option linter.unusedVariables false
set_option linter.unusedSimpArgs false
set_option maxRecDepth 100000
namespace Go.Proofs.Ytfcekiehcchebaa.L
open Go.RowKit
structure HartM.drawn (m : HartM) : Prop where
  regs : m.regs.length = 16
  csr : m.csr.length = 11
  inp : m.inp.length ≤ 2
  out : m.out.length ≤ 40
abbrev hartN : List LV := [dv (.slice none 0 0), di 0, dv (.slice none 0 0), dv (.bool false), dv (.bool false), dv (.bool false), di 0, dv (.slice none 0 0), dv (.slice none 0 0)]
abbrev drawMem (c : List Int) (m : HartM) (p : Int) : List (Nat × Ent) := [(0, srcBox c p), (10, .box 30 hartN), (11, .box 30 (hartK m 12 13 14 15)), (12, rowE m.regs), (13, rowE m.csr), (14, rowE m.inp), (15, rowE m.out)]
theorem setM_drawn {m : HartM} (h : m.drawn) (k w : Int) : (setM m k w).drawn := by
  obtain ⟨h1, h2, h3, h4⟩ := h
  unfold setM setCsrL
  (repeat' split) <;> exact ⟨by simpa using h1, by simpa using h2, by simpa using h3, by simpa using h4⟩
set_option maxHeartbeats 2000000 in
theorem c_spec_l8Hart (c : List Int) (hc : okCode c) (p : Int) (hp : 0 ≤ p) (hp2 : p ≤ 1099511627) : MutS Try.prog 126 [.ptr 0 0] 1 [(0, srcBox c p)]
    (fun lv m' hp1 => ∃ (m : HartM) (q : Int), m.drawn ∧ p ≤ q ∧ q ≤ p + 1000 ∧ lv = .agg (hartK m 1 2 3 4) ∧ m' = 5 ∧ hp1 = [(0, srcBox c q), (1, rowE m.regs), (2, rowE m.csr), (3, rowE m.inp), (4, rowE m.out)]) := by
  refine mutS_fn_of lv126 Try.func126 rfl rfl (by kernel_rfl) rfl ?_
  obtain ⟨k, h3, h3', hk⟩ := nextE c hc p 3 (by omega) (by omega) (by omega)
  refine .inr ⟨rfl, use_mut ⟨_, _, _, _, _, _, rfl, rfl, hk, rfl, ?_⟩⟩
  have hl : (([7, 8] : List Int).take k.toNat).length = k.toNat := by simp; omega
  refine ask_intro ⟨by omega, by omega, by show k ≤ 2; omega, .inl rfl⟩ ?_
  have hnh : (newHart (([7, 8] : List Int).take k.toNat)).2.drawn := by
    have : k = 0 ∨ k = 1 ∨ k = 2 := by omega
    rcases this with rfl | rfl | rfl <;> exact ⟨by decide, by decide, by decide, by decide⟩
  have hlit : DLe (.l (k - 0).toNat (litD [7, 8])) (ints (([7, 8] : List Int).take k.toNat)) := DLe.l (by rw [hl]; omega) (fun i hi => by
    rw [litD_eq _ _ (by simp; omega)]
    show [D.v (.int .i64 (([7, 8] : List Int).getD i 0))] = [D.v (.int .i64 ((([7, 8] : List Int).take k.toNat).getD i 0))]
    simp only [List.getD, List.getElem?_take]
    rw [if_pos (by omega)])
  refine .inl ⟨_, _, rfl, (c_spec_NewHart (([7, 8] : List Int).take k.toNat) (by rw [hl]; omega)).weak ⟨LVLe.d hlit, trivial⟩, rfl, ?_⟩
  generalize newHart (([7, 8] : List Int).take k.toNat) = q0 at *
  refine ⟨{ x : Nat × HartM × Int // 1 ≤ x.1 ∧ x.1 ≤ 16 ∧ x.2.1.drawn ∧ p + 1 ≤ x.2.2 ∧ x.2.2 ≤ p + 1 + 20 * x.1 }, fun x => ⟨frL [(0, .ptr 0 0), (2, .ptr 10 0), (3, .ptr 11 0), (4, di x.1.1)], hpL (drawMem c x.1.2.1 x.1.2.2), 100, 1⟩, fun x => 16 - x.1.1, ⟨(1, q0.2, p + 1), by omega, by omega, hnh, by show p + 1 ≤ p + 1; omega, by show p + 1 ≤ p + 1 + 20 * ((1 : Nat) : Int); omega⟩,
    le_of [(10, 1), (11, 4289), (12, 4226), (13, 4228), (14, 4233), (15, 4234)] rfl rfl rfl rfl
      (tellHp_box rfl rfl ⟨DLe.refl _, rfl, trivial⟩ (tellHp_box rfl rfl ⟨rfl, rfl, rfl, rfl, rfl, rfl, rfl, rfl, rfl, trivial⟩ (tellHp_box rfl rfl ⟨rfl, rfl, rfl, rfl, rfl, rfl, rfl, rfl, rfl, trivial⟩ (tellHp_row rfl rfl rfl (fun j hj => rfl) (tellHp_row rfl rfl rfl (fun j hj => rfl) (tellHp_row rfl rfl rfl (fun j hj => rfl) (tellHp_row rfl rfl rfl (fun j hj => rfl) tellHp_nil)))))))
      (tellFr_ptr rfl rfl (tellFr_ptr rfl rfl (tellFr_ptr rfl rfl (tellFr_v rfl rfl trivial)))), ?_⟩
  rintro ⟨⟨i, m, q⟩, h1, h16, hd, hq1, hq2⟩
  simp only at h1 h16 hd hq1 hq2
  refine bsplit_intro (fun hb => ?_) (fun hb => ?_)
  · have hi : i < 16 := by simp at hb; omega
    obtain ⟨v0, hv0⟩ := chanceE c hc q 3 (by omega) (by omega)
    refine .inr ⟨rfl, use_mut ⟨_, _, _, _, _, _, rfl, rfl, hv0, rfl, ?_⟩⟩
    have hw : IntKind.i64.wrap ((i : Int) + 1) = ((i + 1 : Nat) : Int) := wrap_i64 (i + 1) (by omega) (by omega)
    refine bsplit_intro (fun hb2 => ?_) (fun hb2 => ?_)
    · obtain ⟨v1, hv1⟩ := wordE c hc (q + 1) (by omega) (by omega)
      obtain ⟨v2, _, _, hv2⟩ := nextE c hc (q + 1 + 5) 64 (by omega) (by omega) (by omega)
      obtain ⟨v3, _, _, hv3⟩ := nextE c hc (q + 1 + 5 + 1) 8 (by omega) (by omega) (by omega)
      obtain ⟨v, _, hP⟩ := pickE c hc (q + 1 + 5 + 1 + 1) [v1, v2, IntKind.i64.wrap (56 + v3)] (by omega) (by omega) (by simp)
      refine .inr ⟨_, _, use_mut ⟨_, _, _, _, _, _, rfl, rfl, hv1, rfl, ⟨rfl, rfl⟩⟩, ?_⟩
      refine .inr ⟨_, _, use_mut ⟨_, _, _, _, _, _, rfl, rfl, hv2, rfl, ⟨rfl, rfl⟩⟩, ?_⟩
      refine .inr ⟨_, _, use_mut ⟨_, _, _, _, _, _, rfl, rfl, hv3, rfl, ⟨rfl, rfl⟩⟩, ?_⟩
      refine .inr ⟨_, _, use_mut ⟨_, _, _, _, _, _, rfl, rfl, hP, rfl, ⟨rfl, rfl⟩⟩, ?_⟩
      refine ask_intro ⟨by omega, by show (i : Int) < m.regs.length; rw [hd.regs]; omega⟩ ?_
      refine ask_intro (show i < m.regs.length by rw [hd.regs]; omega) ?_
      refine chk_intro (by kernel_rfl) ?_
      refine ⟨⟨(i + 1, { m with regs := m.regs.set i v }, q + 9), by omega, by omega, ⟨by simpa using hd.regs, hd.csr, hd.inp, hd.out⟩, by show p + 1 ≤ q + 9; omega, by show q + 9 ≤ p + 1 + 20 * ((i + 1 : Nat) : Int); omega⟩, le_of [(10, 10), (11, 11), (12, 12), (13, 13), (14, 14), (15, 15)] rfl rfl rfl rfl
        (tellHp_box rfl rfl ⟨DLe.refl _, congrArg (Value.int .i64) (by show q + 1 + 5 + 1 + 1 + 1 = q + 9; omega), trivial⟩ (tellHp_box rfl rfl ⟨rfl, rfl, rfl, rfl, rfl, rfl, rfl, rfl, rfl, trivial⟩ (tellHp_box rfl rfl ⟨rfl, rfl, rfl, rfl, rfl, rfl, rfl, rfl, rfl, trivial⟩ (tellHp_row rfl rfl (show m.regs.length = (m.regs.set i v).length by simp) (fun j hj => set_at (l := m.regs) (i := i) rfl (show i < m.regs.length by rw [hd.regs]; omega)) (tellHp_row rfl rfl rfl (fun j hj => rfl) (tellHp_row rfl rfl rfl (fun j hj => rfl) (tellHp_row rfl rfl rfl (fun j hj => rfl) tellHp_nil)))))))
        (tellFr_ptr rfl rfl (tellFr_ptr rfl rfl (tellFr_ptr rfl rfl (tellFr_v rfl (congrArg (Value.int .i64) (hw)) trivial)))), by show 16 - (i + 1) < 16 - i; omega⟩
    · refine ⟨⟨(i + 1, m, q + 1), by omega, by omega, hd, by show p + 1 ≤ q + 1; omega, by show q + 1 ≤ p + 1 + 20 * ((i + 1 : Nat) : Int); omega⟩, le_of [(10, 10), (11, 11), (12, 12), (13, 13), (14, 14), (15, 15)] rfl rfl rfl rfl
        (tellHp_box rfl rfl ⟨DLe.refl _, congrArg (Value.int .i64) (rfl), trivial⟩ (tellHp_box rfl rfl ⟨rfl, rfl, rfl, rfl, rfl, rfl, rfl, rfl, rfl, trivial⟩ (tellHp_box rfl rfl ⟨rfl, rfl, rfl, rfl, rfl, rfl, rfl, rfl, rfl, trivial⟩ (tellHp_row rfl rfl rfl (fun j hj => rfl) (tellHp_row rfl rfl rfl (fun j hj => rfl) (tellHp_row rfl rfl rfl (fun j hj => rfl) (tellHp_row rfl rfl rfl (fun j hj => rfl) tellHp_nil)))))))
        (tellFr_ptr rfl rfl (tellFr_ptr rfl rfl (tellFr_ptr rfl rfl (tellFr_v rfl (congrArg (Value.int .i64) (hw)) trivial)))), by show 16 - (i + 1) < 16 - i; omega⟩
  have hi : i = 16 := by simp at hb; omega
  subst hi
  clear hb
  obtain ⟨u1, _, _, hu1⟩ := nextE c hc q 24 (by omega) (by omega) (by omega)
  obtain ⟨u2, _, _, hu2⟩ := nextE c hc (q + 1) 24 (by omega) (by omega) (by omega)
  obtain ⟨u3, hu3⟩ := wordE c hc (q + 1 + 1) (by omega) (by omega)
  obtain ⟨u, _, hu⟩ := pickE c hc (q + 1 + 1 + 5) [u1, u2, u3] (by omega) (by omega) (by simp)
  obtain ⟨w, _, _, hw1⟩ := nextE c hc (q + 1 + 1 + 5 + 1) 90 (by omega) (by omega) (by omega)
  refine .inr ⟨rfl, use_mut ⟨_, _, _, _, _, _, rfl, rfl, hu1, rfl, ?_⟩⟩
  refine .inr ⟨rfl, use_mut ⟨_, _, _, _, _, _, rfl, rfl, hu2, rfl, ?_⟩⟩
  refine .inr ⟨rfl, use_mut ⟨_, _, _, _, _, _, rfl, rfl, hu3, rfl, ?_⟩⟩
  refine .inr ⟨rfl, use_mut ⟨_, _, _, _, _, _, rfl, rfl, hu, rfl, ?_⟩⟩
  refine .inr ⟨rfl, use_mut ⟨_, _, _, _, _, _, rfl, rfl, hw1, rfl, ?_⟩⟩
  refine ⟨{ x : Nat × HartM × Int // x.1 ≤ 11 ∧ x.2.1.drawn ∧ q + 9 ≤ x.2.2 ∧ x.2.2 ≤ q + 9 + 20 * x.1 }, fun x => ⟨frL [(0, .ptr 0 0), (2, .ptr 10 0), (3, .ptr 11 0), (5, di x.1.1)], hpL (drawMem c x.1.2.1 x.1.2.2), 100, 1⟩, fun x => 11 - x.1.1, ⟨(0, { m with pc := u, done := w }, q + 9), by omega, ⟨hd.regs, hd.csr, hd.inp, hd.out⟩, by show q + 9 ≤ q + 9; omega, by show q + 9 ≤ q + 9 + 20 * ((0 : Nat) : Int); omega⟩,
    le_of [(10, 10), (11, 11), (12, 12), (13, 13), (14, 14), (15, 15)] rfl rfl rfl rfl
        (tellHp_box rfl rfl ⟨DLe.refl _, congrArg (Value.int .i64) (by show q + 1 + 1 + 5 + 1 + 1 = q + 9; omega), trivial⟩ (tellHp_box rfl rfl ⟨rfl, rfl, rfl, rfl, rfl, rfl, rfl, rfl, rfl, trivial⟩ (tellHp_box rfl rfl ⟨rfl, rfl, rfl, rfl, rfl, rfl, rfl, rfl, rfl, trivial⟩ (tellHp_row rfl rfl rfl (fun j hj => rfl) (tellHp_row rfl rfl rfl (fun j hj => rfl) (tellHp_row rfl rfl rfl (fun j hj => rfl) (tellHp_row rfl rfl rfl (fun j hj => rfl) tellHp_nil)))))))
        (tellFr_ptr rfl rfl (tellFr_ptr rfl rfl (tellFr_ptr rfl rfl (tellFr_v rfl (congrArg (Value.int .i64) (rfl)) trivial)))), ?_⟩
  rintro ⟨⟨j, m2, r⟩, k1, kd, k2, k3⟩
  simp only at k1 kd k2 k3
  refine bsplit_intro (fun hb => ?_) (fun hb => ?_)
  · have hj : j < 11 := by simp at hb; omega
    have hw : IntKind.i64.wrap ((j : Int) + 1) = ((j + 1 : Nat) : Int) := wrap_i64 (j + 1) (by omega) (by omega)
    obtain ⟨v0, hv0⟩ := chanceE c hc r 2 (by omega) (by omega)
    refine .inr ⟨rfl, use_mut ⟨_, _, _, _, _, _, rfl, rfl, hv0, rfl, ?_⟩⟩
    refine bsplit_intro (fun hb2 => ?_) (fun hb2 => ?_)
    · obtain ⟨v1, _, _, hv1⟩ := nextE c hc (r + 1) 9 (by omega) (by omega) (by omega)
      obtain ⟨v2, _, _, hv2⟩ := nextE c hc (r + 1 + 1) 60 (by omega) (by omega) (by omega)
      obtain ⟨v3, hv3⟩ := wordE c hc (r + 1 + 1 + 1) (by omega) (by omega)
      obtain ⟨v, _, hP⟩ := pickE c hc (r + 1 + 1 + 1 + 5) [v1, v2, v3] (by omega) (by omega) (by simp)
      refine .inr ⟨rfl, use_mut ⟨_, _, _, _, _, _, rfl, rfl, hv1, rfl, ?_⟩⟩
      refine .inr ⟨rfl, use_mut ⟨_, _, _, _, _, _, rfl, rfl, hv2, rfl, ?_⟩⟩
      refine .inr ⟨rfl, use_mut ⟨_, _, _, _, _, _, rfl, rfl, hv3, rfl, ?_⟩⟩
      refine .inr ⟨rfl, use_mut ⟨_, _, _, _, _, _, rfl, rfl, hP, rfl, ?_⟩⟩
      refine .inr ⟨rfl, use_mut ⟨_, _, _, _, _, _, rfl, rfl, c_spec_l8Set m2 j v kd.csr (inR_iff.2 ⟨by omega, by omega⟩), rfl, ?_⟩⟩
      exact ⟨⟨(j + 1, setM m2 j v, r + 9), by omega, setM_drawn kd _ _, by show q + 9 ≤ r + 9; omega, by show r + 9 ≤ q + 9 + 20 * ((j + 1 : Nat) : Int); omega⟩, le_of [(10, 10), (11, 11), (12, 12), (13, 13), (14, 14), (15, 15)] rfl rfl rfl rfl
        (tellHp_box rfl rfl ⟨DLe.refl _, congrArg (Value.int .i64) (by show r + 1 + 1 + 1 + 5 + 1 = r + 9; omega), trivial⟩ (tellHp_box rfl rfl ⟨rfl, rfl, rfl, rfl, rfl, rfl, rfl, rfl, rfl, trivial⟩ (tellHp_box rfl rfl ⟨rfl, rfl, rfl, rfl, rfl, rfl, rfl, rfl, rfl, trivial⟩ (tellHp_row rfl rfl rfl (fun j hj => rfl) (tellHp_row rfl rfl rfl (fun j hj => rfl) (tellHp_row rfl rfl rfl (fun j hj => rfl) (tellHp_row rfl rfl rfl (fun j hj => rfl) tellHp_nil)))))))
        (tellFr_ptr rfl rfl (tellFr_ptr rfl rfl (tellFr_ptr rfl rfl (tellFr_v rfl (congrArg (Value.int .i64) (hw)) trivial)))), by show 11 - (j + 1) < 11 - j; omega⟩
    · exact ⟨⟨(j + 1, m2, r + 1), by omega, kd, by show q + 9 ≤ r + 1; omega, by show r + 1 ≤ q + 9 + 20 * ((j + 1 : Nat) : Int); omega⟩, le_of [(10, 10), (11, 11), (12, 12), (13, 13), (14, 14), (15, 15)] rfl rfl rfl rfl
        (tellHp_box rfl rfl ⟨DLe.refl _, congrArg (Value.int .i64) (rfl), trivial⟩ (tellHp_box rfl rfl ⟨rfl, rfl, rfl, rfl, rfl, rfl, rfl, rfl, rfl, trivial⟩ (tellHp_box rfl rfl ⟨rfl, rfl, rfl, rfl, rfl, rfl, rfl, rfl, rfl, trivial⟩ (tellHp_row rfl rfl rfl (fun j hj => rfl) (tellHp_row rfl rfl rfl (fun j hj => rfl) (tellHp_row rfl rfl rfl (fun j hj => rfl) (tellHp_row rfl rfl rfl (fun j hj => rfl) tellHp_nil)))))))
        (tellFr_ptr rfl rfl (tellFr_ptr rfl rfl (tellFr_ptr rfl rfl (tellFr_v rfl (congrArg (Value.int .i64) (hw)) trivial)))), by show 11 - (j + 1) < 11 - j; omega⟩
  have hj : j = 11 := by simp at hb; omega
  subst hj
  obtain ⟨b1, hb1⟩ := chanceE c hc r 3 (by omega) (by omega)
  obtain ⟨b2, hb2⟩ := chanceE c hc (r + 1) 8 (by omega) (by omega)
  obtain ⟨b3, hb3⟩ := chanceE c hc (r + 1 + 1) 20 (by omega) (by omega)
  obtain ⟨b4, hb4⟩ := chanceE c hc (r + 1 + 1 + 1) 20 (by omega) (by omega)
  refine .inr ⟨rfl, use_mut ⟨_, _, _, _, _, _, rfl, rfl, hb1, rfl, ?_⟩⟩
  refine .inr ⟨rfl, use_mut ⟨_, _, _, _, _, _, rfl, rfl, hb2, rfl, ?_⟩⟩
  refine .inr ⟨rfl, use_mut ⟨_, _, _, _, _, _, rfl, rfl, hb3, rfl, ?_⟩⟩
  refine .inr ⟨rfl, use_mut ⟨_, _, _, _, _, _, rfl, rfl, hb4, rfl, ?_⟩⟩
  refine bsplit_intro (fun hb => ?_) (fun hb => ?_)
  · refine ask_intro ⟨rfl, by decide, by decide, by decide⟩ ?_
    exact ⟨_, _, _, [(1, 12), (2, 13), (3, 14), (4, 20580)], ⟨{ m2 with rung := b1, waiting := b2, halted := b3, out := List.replicate 40 0 }, r + 1 + 1 + 1 + 1, ⟨kd.regs, kd.csr, kd.inp, by simp⟩, by omega, by omega, rfl, rfl, rfl⟩, chk_intro (by kernel_rfl) ⟨⟨rfl, rfl, rfl, rfl, rfl, rfl, rfl, rfl, rfl, trivial⟩,
      tellHp_box rfl rfl ⟨DLe.refl _, rfl, trivial⟩ (tellHp_row rfl rfl rfl (fun j hj => rfl) (tellHp_row rfl rfl rfl (fun j hj => rfl) (tellHp_row rfl rfl rfl (fun j hj => rfl) (tellHp_row rfl rfl rfl (fun j hj => (rep_get 40 j).symm) tellHp_nil))))⟩⟩
  · exact ⟨_, _, _, [(1, 12), (2, 13), (3, 14), (4, 15)], ⟨{ m2 with rung := b1, waiting := b2, halted := b3 }, r + 1 + 1 + 1 + 1, ⟨kd.regs, kd.csr, kd.inp, kd.out⟩, by omega, by omega, rfl, rfl, rfl⟩, chk_intro (by kernel_rfl) ⟨⟨rfl, rfl, rfl, rfl, rfl, rfl, rfl, rfl, rfl, trivial⟩,
      tellHp_box rfl rfl ⟨DLe.refl _, rfl, trivial⟩ (tellHp_row rfl rfl rfl (fun j hj => rfl) (tellHp_row rfl rfl rfl (fun j hj => rfl) (tellHp_row rfl rfl rfl (fun j hj => rfl) (tellHp_row rfl rfl rfl (fun j hj => rfl) tellHp_nil))))⟩⟩
end Go.Proofs.Ytfcekiehcchebaa.L
