/- The law function over numbers that are set and got answers true. -/
import Derived.Test.YtcllbnancmogfaaDe
import Derived.Test.YtcllbnancmogfaaWh
set_option linter.unusedVariables false
set_option linter.unusedSimpArgs false
set_option maxRecDepth 100000
namespace Go.Proofs.Ytcllbnancmogfaa.L
open Go.RowKit Go.ChangeShapes Go.WideShapes Go.ChangeAt
abbrev okByte (n : Int) : Prop := (Lit.int .u8 n).wf = true
theorem okByte_le {n : Int} (h : okByte n) : 0 ≤ n ∧ n ≤ 255 := by
  have h' : IntKind.u8.min ≤ n ∧ n ≤ IntKind.u8.max := by simpa [okByte, Lit.wf] using h
  have e : IntKind.u8.min = 0 := by decide
  have e2 : IntKind.u8.max = 255 := by decide
  rw [e, e2] at h'
  exact h'
abbrev okBytes (l : List Int) : Prop := l.length * 1 ≤ reachBytes ∧ ∀ x ∈ l, okByte x
theorem okBytes.code {l : List Int} (h : okBytes l) (hb : decide ((l.length : Int) > 1048576) = false) : okCode l := ⟨by simp at hb; omega, fun x hx => okByte_le (h.2 x hx)⟩
theorem reads_uint8 : ReadsT Try.prog 5 1 Int (fun n => [.v (.int .u8 n)]) okByte := ReadsT.int Try.underlying5 (by kernel_rfl)
theorem reads_bytes : ReadsT Try.prog 52 1 (List Int) (fun l => [bytesD l]) okBytes := ReadsT.slice reads_uint8 Try.underlying52 (by kernel_rfl) (by decide) 0 (by kernel_rfl)
theorem setCsr_zero {m r : HartM} {k w : Int} (h : (0, r) = setCsr m k w) : m.right ∧ 0 ≤ k ∧ k ≤ 10 ∧ r = setM m k w := by
  unfold setCsr at h
  split at h
  · rename_i h0
    cases hk : inR k 0 10 with
    | false => rw [hk] at h; simp at h
    | true =>
      rw [hk] at h
      have := inR_iff.1 hk
      exact ⟨hFault_right h0, this.1, this.2, by simpa using h⟩
  · rename_i h0
    simp only [Prod.mk.injEq] at h
    exact absurd h.1.symm h0
abbrev hartC (m : HartM) : List LV := [.d (ints m.regs), di m.pc, .d (ints m.csr), dv (.bool m.halted), dv (.bool m.waiting), dv (.bool m.rung), di m.done, .d (ints m.inp), .d (ints m.out)]
set_option maxHeartbeats 2000000 in
theorem c_laws_FnCsrs (c : List Int) (ho : okBytes c) : FnOK Try.prog 12 [.d (bytesD c)] (rb true) := by
  have hrb := reach_eq
  have hlen : c.length * 1 ≤ 140737488351232 := by have := ho.1; omega
  refine fn_of lv12 Try.func12 rfl rfl (by kernel_rfl) rfl ?_
  refine .inl ⟨_, _, rfl, c_laws_lwBig c (by omega), rfl, ?_⟩
  refine bsplit_intro (fun h => ?_) (fun h => ?_)
  · exact ⟨⟨rfl, trivial⟩, rfl⟩
  have hc := ho.code h
  refine .inr ⟨rfl, use_fn ⟨_, _, rfl, c_spec_DrawSetCsr c hc, ?_⟩⟩
  rintro _ ⟨m, k, w, hs, hf, rfl⟩
  refine ⟨rfl, ?_⟩
  obtain ⟨⟨code, r⟩, hq⟩ : ∃ q, q = setCsr m k w := ⟨_, rfl⟩
  have hsr := setCsr_few m hf hs k w
  rw [← hq] at hsr
  have ci := c_impl_SetCsr m hs k w
  rw [← hq] at ci
  have cs := c_spec_SetCsr m hs k w
  rw [← hq] at cs
  by_cases h0 : code = 0
  rotate_left
  · refine .inl ⟨_, _, rfl, ci, rfl, ?_⟩
    refine bsplit_of_true (by simp; exact h0) ?_
    refine .inl ⟨_, _, rfl, cs, rfl, ?_⟩
    refine chk_intro (by kernel_rfl) ?_
    exact ⟨⟨congrArg Value.bool (by simp), trivial⟩, rfl⟩
  subst h0
  obtain ⟨hm, hk, hk2, hr⟩ := setCsr_zero hq
  have hrr : r.right := by rw [hr]; exact setM_right hm k w hk hk2
  have hrs : r.small := hsr.2
  have e2 : setCsr r k w = (0, r) := by
    unfold setCsr
    rw [if_pos (right_hFault hrr), inR_iff.2 ⟨hk, hk2⟩]
    show (0, setM r k w) = _
    rw [hr, setM_idem]
  have ci2 := c_impl_SetCsr r hrs k w
  rw [e2] at ci2
  have hgk := getCsr_right hrr k hk hk2
  have hgr := c_impl_GetCsr r hrs k
  have hgs := c_spec_GetCsr r hrs k
  rw [hgk] at hgr hgs
  have h5 : k = 5 → csrOf r k = wrapW w := fun e => by rw [hr, e]; exact setM_5 m w hm.csr
  have h8 : k = 8 → csrOf r k = m.done := fun e => by rw [hr, e]; exact setM_8 m w
  have hfr : FnOK Try.prog 16 [hartLV r] (ri 0) := by have := c_impl_HartFault r hrs; rwa [right_hFault hrr] at this
  have hregs : r.regs = m.regs := by rw [hr]; exact (setM_len m k w).2.1
  obtain ⟨g, hg⟩ : ∃ g, g = csrOf r k := ⟨_, rfl⟩
  rw [← hg] at hgr hgs h5 h8
  refine .inl ⟨_, _, rfl, ci, rfl, ?_⟩
  refine bsplit_of_false rfl ?_
  refine .inl ⟨_, _, rfl, ci2, rfl, ?_⟩
  refine ⟨{ i : Nat // i ≤ 11 }, fun i => ⟨frL [(3, .ptr 10 0), (4, di k), (5, di w), (6, .ptr 11 0), (7, .ptr 12 0), (8, di i.1)], hpL [(10, .box 27 (hartC m)), (11, .box 32 (di 0 :: hartC r)), (12, .box 32 (di 0 :: hartC r))], 100, 0⟩, fun i => 11 - i.1, ⟨0, by omega⟩,
    le_of [(10, 8384), (11, 12416), (12, 20640)] rfl rfl rfl rfl
      (tellHp_box rfl rfl ⟨DLe.refl _, rfl, DLe.refl _, rfl, rfl, rfl, rfl, DLe.refl _, DLe.refl _, trivial⟩ (tellHp_box rfl rfl ⟨rfl, ⟨rfl, DLe.refl _⟩, rfl, ⟨rfl, DLe.refl _⟩, rfl, rfl, rfl, rfl, ⟨rfl, DLe.refl _⟩, ⟨rfl, DLe.refl _⟩, trivial⟩ (tellHp_box rfl rfl ⟨rfl, ⟨rfl, DLe.refl _⟩, rfl, ⟨rfl, DLe.refl _⟩, rfl, rfl, rfl, rfl, ⟨rfl, DLe.refl _⟩, ⟨rfl, DLe.refl _⟩, trivial⟩ tellHp_nil)))
      (tellFr_ptr rfl rfl (tellFr_v rfl rfl (tellFr_v rfl rfl (tellFr_ptr rfl rfl (tellFr_ptr rfl rfl (tellFr_v rfl rfl trivial)))))), ?_⟩
  rintro ⟨i, hi⟩
  refine bsplit_intro (fun hb => ?_) (fun hb => ?_)
  · have hi2 : i < 11 := by simp at hb; omega
    have hw : IntKind.i64.wrap ((i : Int) + 1) = ((i + 1 : Nat) : Int) := wrap_i64 (i + 1) (by omega) (by omega)
    have hgri := c_impl_GetCsr r hrs i
    have hgm := c_impl_GetCsr m hs i
    have heq : (i : Int) ≠ k → (i : Int) ≠ 6 → getCsr r i = getCsr m i := fun a b => by rw [hr]; exact getCsr_set m k w hm hk hk2 i (by omega) (by omega) a b
    refine bsplit_intro (fun hb2 => ?_) (fun hb2 => ?_)
    · repeat' (first | refine bsplit_true ?_ | refine bsplit_false ?_)
      exact ⟨⟨i + 1, by omega⟩, le_of [(10, 10), (11, 11), (12, 12)] rfl rfl rfl rfl
      (tellHp_box rfl rfl ⟨DLe.refl _, rfl, DLe.refl _, rfl, rfl, rfl, rfl, DLe.refl _, DLe.refl _, trivial⟩ (tellHp_box rfl rfl ⟨rfl, DLe.refl _, rfl, DLe.refl _, rfl, rfl, rfl, rfl, DLe.refl _, DLe.refl _, trivial⟩ (tellHp_box rfl rfl ⟨rfl, DLe.refl _, rfl, DLe.refl _, rfl, rfl, rfl, rfl, DLe.refl _, DLe.refl _, trivial⟩ tellHp_nil)))
      (tellFr_ptr rfl rfl (tellFr_v rfl rfl (tellFr_v rfl rfl (tellFr_ptr rfl rfl (tellFr_ptr rfl rfl (tellFr_v rfl (congrArg (Value.int .i64) hw) trivial)))))), by show 11 - (i + 1) < 11 - i; omega⟩
    repeat' (first | refine bsplit_true ?_ | refine bsplit_false ?_)
    refine bsplit_intro (fun hb3 => ?_) (fun hb3 => ?_)
    · exact ⟨⟨i + 1, by omega⟩, le_of [(10, 10), (11, 11), (12, 12)] rfl rfl rfl rfl
      (tellHp_box rfl rfl ⟨DLe.refl _, rfl, DLe.refl _, rfl, rfl, rfl, rfl, DLe.refl _, DLe.refl _, trivial⟩ (tellHp_box rfl rfl ⟨rfl, DLe.refl _, rfl, DLe.refl _, rfl, rfl, rfl, rfl, DLe.refl _, DLe.refl _, trivial⟩ (tellHp_box rfl rfl ⟨rfl, DLe.refl _, rfl, DLe.refl _, rfl, rfl, rfl, rfl, DLe.refl _, DLe.refl _, trivial⟩ tellHp_nil)))
      (tellFr_ptr rfl rfl (tellFr_v rfl rfl (tellFr_v rfl rfl (tellFr_ptr rfl rfl (tellFr_ptr rfl rfl (tellFr_v rfl (congrArg (Value.int .i64) hw) trivial)))))), by show 11 - (i + 1) < 11 - i; omega⟩
    have heq := heq (by simpa using hb2) (by simpa using hb3)
    rw [← heq] at hgm
    refine .inl ⟨_, _, rfl, hgri, rfl, ?_⟩
    refine .inl ⟨_, _, rfl, hgm, rfl, ?_⟩
    refine chk_intro (by kernel_rfl) ?_
    refine bsplit_of_false (by simp) ?_
    exact ⟨⟨i + 1, by omega⟩, le_of [(10, 10), (11, 11), (12, 12)] rfl rfl rfl rfl
      (tellHp_box rfl rfl ⟨DLe.refl _, rfl, DLe.refl _, rfl, rfl, rfl, rfl, DLe.refl _, DLe.refl _, trivial⟩ (tellHp_box rfl rfl ⟨rfl, DLe.refl _, rfl, DLe.refl _, rfl, rfl, rfl, rfl, DLe.refl _, DLe.refl _, trivial⟩ (tellHp_box rfl rfl ⟨rfl, DLe.refl _, rfl, DLe.refl _, rfl, rfl, rfl, rfl, DLe.refl _, DLe.refl _, trivial⟩ tellHp_nil)))
      (tellFr_ptr rfl rfl (tellFr_v rfl rfl (tellFr_v rfl rfl (tellFr_ptr rfl rfl (tellFr_ptr rfl rfl (tellFr_v rfl (congrArg (Value.int .i64) hw) trivial)))))), by show 11 - (i + 1) < 11 - i; omega⟩
  have hlast : FnOK Try.prog 45 [.d (ints r.regs), .d (ints m.regs)] (rb (r.regs == m.regs)) := c_laws_lwNums _ _ (by have := hrs.regs; omega)
  have hne5 : (k == 5) = true → (g != wrapW w) = false := fun e => by rw [h5 (by simpa using e)]; simp
  have hne8 : (k == 8) = true → (g != m.done) = false := fun e => by rw [h8 (by simpa using e)]; simp
  refine bsplit_intro (fun h5b => ?_) (fun h5b => ?_)
  · repeat' (first | refine bsplit_true ?_ | refine bsplit_false ?_)
    refine .inl ⟨_, _, rfl, hgr, rfl, ?_⟩
    repeat' (first | refine bsplit_true ?_ | refine bsplit_false ?_)
    refine .inl ⟨_, _, rfl, c_impl_WrapWord w, rfl, ?_⟩
    repeat' (first | refine bsplit_true ?_ | refine bsplit_false ?_)
    refine bsplit_of_false (hne5 h5b) ?_
    repeat' (first | refine bsplit_true ?_ | refine bsplit_false ?_)
    refine bsplit_of_false (show (k == 8) = false by simp at h5b ⊢; omega) ?_
    repeat' (first | refine bsplit_true ?_ | refine bsplit_false ?_)
    refine chk_intro (by kernel_rfl) ?_
    repeat' (first | refine bsplit_true ?_ | refine bsplit_false ?_)
    refine .inl ⟨_, _, rfl, hfr, rfl, ?_⟩
    repeat' (first | refine bsplit_true ?_ | refine bsplit_false ?_)
    refine .inl ⟨_, _, rfl, hgr, rfl, ?_⟩
    repeat' (first | refine bsplit_true ?_ | refine bsplit_false ?_)
    refine .inl ⟨_, _, rfl, hgr, rfl, ?_⟩
    repeat' (first | refine bsplit_true ?_ | refine bsplit_false ?_)
    refine bsplit_of_true (by simp; done) ?_
    repeat' (first | refine bsplit_true ?_ | refine bsplit_false ?_)
    refine .inl ⟨_, _, rfl, hlast, rfl, ?_⟩
    repeat' (first | refine bsplit_true ?_ | refine bsplit_false ?_)
    refine bsplit_of_true (by rw [hregs]; simp; done) ?_
    repeat' (first | refine bsplit_true ?_ | refine bsplit_false ?_)
    refine .inl ⟨_, _, rfl, hgr, rfl, ?_⟩
    repeat' (first | refine bsplit_true ?_ | refine bsplit_false ?_)
    refine .inl ⟨_, _, rfl, hgs, rfl, ?_⟩
    repeat' (first | refine bsplit_true ?_ | refine bsplit_false ?_)
    refine chk_intro (by kernel_rfl) ?_
    exact ⟨⟨congrArg Value.bool (by simp), trivial⟩, rfl⟩
  repeat' (first | refine bsplit_true ?_ | refine bsplit_false ?_)
  refine bsplit_intro (fun h8b => ?_) (fun h8b => ?_)
  · repeat' (first | refine bsplit_true ?_ | refine bsplit_false ?_)
    refine .inl ⟨_, _, rfl, hgr, rfl, ?_⟩
    repeat' (first | refine bsplit_true ?_ | refine bsplit_false ?_)
    refine chk_intro (by kernel_rfl) ?_
    repeat' (first | refine bsplit_true ?_ | refine bsplit_false ?_)
    refine bsplit_of_false (hne8 h8b) ?_
    repeat' (first | refine bsplit_true ?_ | refine bsplit_false ?_)
    refine .inl ⟨_, _, rfl, hfr, rfl, ?_⟩
    repeat' (first | refine bsplit_true ?_ | refine bsplit_false ?_)
    refine .inl ⟨_, _, rfl, hgr, rfl, ?_⟩
    repeat' (first | refine bsplit_true ?_ | refine bsplit_false ?_)
    refine .inl ⟨_, _, rfl, hgr, rfl, ?_⟩
    repeat' (first | refine bsplit_true ?_ | refine bsplit_false ?_)
    refine bsplit_of_true (by simp; done) ?_
    repeat' (first | refine bsplit_true ?_ | refine bsplit_false ?_)
    refine .inl ⟨_, _, rfl, hlast, rfl, ?_⟩
    repeat' (first | refine bsplit_true ?_ | refine bsplit_false ?_)
    refine bsplit_of_true (by rw [hregs]; simp; done) ?_
    repeat' (first | refine bsplit_true ?_ | refine bsplit_false ?_)
    refine .inl ⟨_, _, rfl, hgr, rfl, ?_⟩
    repeat' (first | refine bsplit_true ?_ | refine bsplit_false ?_)
    refine .inl ⟨_, _, rfl, hgs, rfl, ?_⟩
    repeat' (first | refine bsplit_true ?_ | refine bsplit_false ?_)
    refine chk_intro (by kernel_rfl) ?_
    exact ⟨⟨congrArg Value.bool (by simp), trivial⟩, rfl⟩
  · repeat' (first | refine bsplit_true ?_ | refine bsplit_false ?_)
    refine chk_intro (by kernel_rfl) ?_
    repeat' (first | refine bsplit_true ?_ | refine bsplit_false ?_)
    refine .inl ⟨_, _, rfl, hfr, rfl, ?_⟩
    repeat' (first | refine bsplit_true ?_ | refine bsplit_false ?_)
    refine .inl ⟨_, _, rfl, hgr, rfl, ?_⟩
    repeat' (first | refine bsplit_true ?_ | refine bsplit_false ?_)
    refine .inl ⟨_, _, rfl, hgr, rfl, ?_⟩
    repeat' (first | refine bsplit_true ?_ | refine bsplit_false ?_)
    refine bsplit_of_true (by simp; done) ?_
    repeat' (first | refine bsplit_true ?_ | refine bsplit_false ?_)
    refine .inl ⟨_, _, rfl, hlast, rfl, ?_⟩
    repeat' (first | refine bsplit_true ?_ | refine bsplit_false ?_)
    refine bsplit_of_true (by rw [hregs]; simp; done) ?_
    repeat' (first | refine bsplit_true ?_ | refine bsplit_false ?_)
    refine .inl ⟨_, _, rfl, hgr, rfl, ?_⟩
    repeat' (first | refine bsplit_true ?_ | refine bsplit_false ?_)
    refine .inl ⟨_, _, rfl, hgs, rfl, ?_⟩
    repeat' (first | refine bsplit_true ?_ | refine bsplit_false ?_)
    refine chk_intro (by kernel_rfl) ?_
    exact ⟨⟨congrArg Value.bool (by simp), trivial⟩, rfl⟩
end Go.Proofs.Ytcllbnancmogfaa.L
