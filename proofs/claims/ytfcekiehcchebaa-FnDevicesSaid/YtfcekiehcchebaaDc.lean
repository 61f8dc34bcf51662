/- What the functions compute that draw a machine with something bent: contracts. -/
import Derived.Test.YtfcekiehcchebaaDb
set_option linter.unusedVariables false
set_option linter.unusedSimpArgs false
set_option maxRecDepth 100000
namespace Go.Proofs.Ytfcekiehcchebaa.L
open Go.RowKit
private theorem drop_ints (l : List Int) (k i : Nat) : intsF l (k + i) = intsF (l.drop k) i := by
  show [D.v (.int .i64 (l.getD (k + i) 0))] = [D.v (.int .i64 ((l.drop k).getD i 0))]
  simp [List.getD, List.getElem?_drop]
theorem HartM.drawn.small {m : HartM} (h : m.drawn) : m.small := by
  obtain ⟨h1, h2, h3, h4⟩ := h
  exact ⟨by omega, by omega, by omega, by omega⟩
set_option maxHeartbeats 2000000 in
theorem c_spec_l8Bent (c : List Int) (hc : okCode c) (p : Int) (hp : 0 ≤ p) (hp2 : p ≤ 1099511) : MutS Try.prog 87 [.ptr 0 0] 1 [(0, srcBox c p)]
    (fun lv m' hp1 => ∃ (m : HartM) (q : Int), m.small ∧ m.few ∧ p ≤ q ∧ q ≤ p + 1100 ∧ lv = hartLV m ∧ m' = 1 ∧ hp1 = [(0, srcBox c q)]) := by
  refine mutS_fn_of lv87 Try.func87 rfl rfl (by kernel_rfl) rfl ?_
  refine .inr ⟨rfl, use_mutS ⟨_, _, _, _, rfl, rfl, c_spec_l8Hart c hc p (by omega) (by omega), rfl, ?_⟩⟩
  rintro _ _ _ ⟨m, q, hd, hq1, hq2, rfl, rfl, rfl⟩
  refine ⟨rfl, ?_⟩
  obtain ⟨k, hk1, hk2, hk⟩ := nextE c hc q 20 (by omega) (by omega) (by omega)
  refine .inr ⟨rfl, use_mut ⟨_, _, _, _, _, _, rfl, rfl, hk, rfl, ?_⟩⟩
  have e1 := hd.regs
  have e2 := hd.csr
  have e3 := hd.inp
  have e4 := hd.out
  have sm : ∀ m' : HartM, m'.regs.length ≤ 16 → m'.csr.length ≤ 11 → m'.inp.length ≤ 41 → m'.out.length ≤ 40 → m'.small ∧ m'.few := fun m' a1 a2 a3 a4 => ⟨⟨by omega, by omega, by omega, by omega⟩, ⟨by omega, by omega, by omega, by omega⟩⟩
  have fz : ∀ {P Q : Prop}, P → Q → P ∧ Q := fun a b => ⟨a, b⟩
  refine bsplit_intro (fun hb => ?_) (fun hb => ?_)
  · refine ask_intro ⟨by omega, by show (0 : Int) < m.regs.length; omega⟩ ?_
    refine ask_intro (show 0 < m.regs.length by omega) ?_
    obtain ⟨s1, s2⟩ := sm { m with regs := m.regs.set 0 1 } (by simp <;> omega) (by simp <;> omega) (by simp <;> omega) (by simp <;> omega)
    refine ⟨_, _, _, [], ⟨{ m with regs := m.regs.set 0 1 }, q + 1, s1, s2, by omega, by omega, rfl, rfl, rfl⟩, chk_intro (by kernel_rfl) ⟨?_, tellHp_box rfl rfl ⟨DLe.refl _, rfl, trivial⟩ tellHp_nil⟩⟩
    exact ⟨⟨rfl, DLe.l (show m.regs.length = (m.regs.set 0 1).length by simp) (fun i hi => set_at (l := m.regs) (i := 0) rfl (by omega))⟩, rfl, ⟨rfl, DLe.refl _⟩, rfl, rfl, rfl, rfl, ⟨rfl, DLe.refl _⟩, ⟨rfl, DLe.refl _⟩, trivial⟩
  refine bsplit_intro (fun hb => ?_) (fun hb => ?_)
  · refine ask_intro ⟨by omega, by show (1 : Int) ≤ m.regs.length; omega, by show (m.regs.length : Int) ≤ m.regs.length; omega, .inr (fun i hi => rfl)⟩ ?_
    obtain ⟨s1, s2⟩ := sm { m with regs := m.regs.drop 1 } (by simp <;> omega) (by simp <;> omega) (by simp <;> omega) (by simp <;> omega)
    refine ⟨_, _, _, [], ⟨{ m with regs := m.regs.drop 1 }, q + 1, s1, s2, by omega, by omega, rfl, rfl, rfl⟩, chk_intro (by kernel_rfl) ⟨?_, tellHp_box rfl rfl ⟨DLe.refl _, rfl, trivial⟩ tellHp_nil⟩⟩
    exact ⟨DLe.l (show ((m.regs.length : Int) - 1).toNat = (m.regs.drop 1).length by simp <;> omega) (fun i hi => drop_ints m.regs 1 i), rfl, ⟨rfl, DLe.refl _⟩, rfl, rfl, rfl, rfl, ⟨rfl, DLe.refl _⟩, ⟨rfl, DLe.refl _⟩, trivial⟩
  refine bsplit_intro (fun hb => ?_) (fun hb => ?_)
  · obtain ⟨j, hj1, hj2, hj⟩ := nextE c hc (q + 1) 11 (by omega) (by omega) (by omega)
    obtain ⟨v, _, hP⟩ := pickE c hc (q + 1 + 1) [-1, 4, 9, 4294967296] (by omega) (by omega) (by simp)
    obtain ⟨s1, s2⟩ := sm { m with csr := m.csr.set j.toNat v } (by simp <;> omega) (by simp <;> omega) (by simp <;> omega) (by simp <;> omega)
    refine .inr ⟨_, _, use_mut ⟨_, _, _, _, _, _, rfl, rfl, hj, rfl, ⟨rfl, rfl⟩⟩, ?_⟩
    refine .inr ⟨_, _, use_mut ⟨_, _, _, _, _, _, rfl, rfl, hP, rfl, ⟨rfl, rfl⟩⟩, ?_⟩
    refine ask_intro ⟨by omega, by show j < m.csr.length; omega⟩ ?_
    refine ask_intro (show j.toNat < m.csr.length by omega) ?_
    refine chk_intro (by kernel_rfl) ?_
    refine ⟨_, _, _, [], ⟨{ m with csr := m.csr.set j.toNat v }, q + 1 + 1 + 1, s1, s2, by omega, by omega, rfl, rfl, rfl⟩, chk_intro (by kernel_rfl) ⟨?_, tellHp_box rfl rfl ⟨DLe.refl _, rfl, trivial⟩ tellHp_nil⟩⟩
    exact ⟨⟨rfl, DLe.refl _⟩, rfl, ⟨rfl, DLe.l (show m.csr.length = (m.csr.set j.toNat v).length by simp) (fun i hi => set_at (l := m.csr) (i := j.toNat) rfl (by omega))⟩, rfl, rfl, rfl, rfl, ⟨rfl, DLe.refl _⟩, ⟨rfl, DLe.refl _⟩, trivial⟩
  refine bsplit_intro (fun hb => ?_) (fun hb => ?_)
  · obtain ⟨v, _, hP⟩ := pickE c hc (q + 1) [-1, 4294967296] (by omega) (by omega) (by simp)
    refine .inr ⟨rfl, use_mut ⟨_, _, _, _, _, _, rfl, rfl, hP, rfl, ?_⟩⟩
    obtain ⟨s1, s2⟩ := sm { m with pc := v } (by simp <;> omega) (by simp <;> omega) (by simp <;> omega) (by simp <;> omega)
    refine ⟨_, _, _, [], ⟨{ m with pc := v }, q + 1 + 1, s1, s2, by omega, by omega, rfl, rfl, rfl⟩, chk_intro (by kernel_rfl) ⟨?_, tellHp_box rfl rfl ⟨DLe.refl _, rfl, trivial⟩ tellHp_nil⟩⟩
    exact ⟨⟨rfl, DLe.refl _⟩, rfl, ⟨rfl, DLe.refl _⟩, rfl, rfl, rfl, rfl, ⟨rfl, DLe.refl _⟩, ⟨rfl, DLe.refl _⟩, trivial⟩
  refine bsplit_intro (fun hb => ?_) (fun hb => ?_)
  · refine ask_intro ⟨rfl, by decide, by decide, by decide⟩ ?_
    obtain ⟨s1, s2⟩ := sm { m with inp := List.replicate 41 0 } (by simp <;> omega) (by simp <;> omega) (by simp) (by simp <;> omega)
    refine ⟨_, _, _, [], ⟨{ m with inp := List.replicate 41 0 }, q + 1, s1, s2, by omega, by omega, rfl, rfl, rfl⟩, chk_intro (by kernel_rfl) ⟨?_, tellHp_box rfl rfl ⟨DLe.refl _, rfl, trivial⟩ tellHp_nil⟩⟩
    exact ⟨⟨rfl, DLe.refl _⟩, rfl, ⟨rfl, DLe.refl _⟩, rfl, rfl, rfl, rfl, ⟨rfl, DLe.l rfl (fun i hi => (rep_get 41 i).symm)⟩, ⟨rfl, DLe.refl _⟩, trivial⟩
  obtain ⟨s1, s2⟩ := sm m (by omega) (by omega) (by omega) (by omega)
  refine bsplit_intro (fun hb => ?_) (fun hb => ?_)
  · obtain ⟨v, _, hP⟩ := pickE c hc (q + 1) [-1, 1000000000, 1000000001] (by omega) (by omega) (by simp)
    refine .inr ⟨rfl, use_mut ⟨_, _, _, _, _, _, rfl, rfl, hP, rfl, ?_⟩⟩
    obtain ⟨s1, s2⟩ := sm { m with done := v } (by simp <;> omega) (by simp <;> omega) (by simp <;> omega) (by simp <;> omega)
    refine ⟨_, _, _, [], ⟨{ m with done := v }, q + 1 + 1, s1, s2, by omega, by omega, rfl, rfl, rfl⟩, chk_intro (by kernel_rfl) ⟨?_, tellHp_box rfl rfl ⟨DLe.refl _, rfl, trivial⟩ tellHp_nil⟩⟩
    exact ⟨⟨rfl, DLe.refl _⟩, rfl, ⟨rfl, DLe.refl _⟩, rfl, rfl, rfl, rfl, ⟨rfl, DLe.refl _⟩, ⟨rfl, DLe.refl _⟩, trivial⟩
  · refine ⟨_, _, _, [], ⟨m, q + 1, s1, s2, by omega, by omega, rfl, rfl, rfl⟩, chk_intro (by kernel_rfl) ⟨?_, tellHp_box rfl rfl ⟨DLe.refl _, rfl, trivial⟩ tellHp_nil⟩⟩
    exact ⟨⟨rfl, DLe.refl _⟩, rfl, ⟨rfl, DLe.refl _⟩, rfl, rfl, rfl, rfl, ⟨rfl, DLe.refl _⟩, ⟨rfl, DLe.refl _⟩, trivial⟩
end Go.Proofs.Ytfcekiehcchebaa.L
