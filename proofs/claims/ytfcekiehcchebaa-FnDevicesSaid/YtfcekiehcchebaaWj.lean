/- The law function over words that are fed to a machine and read again answers true. -/
import Derived.Test.YtfcekiehcchebaaDe
import Derived.Test.YtfcekiehcchebaaDg
import Derived.Test.YtfcekiehcchebaaDh
import Derived.Test.YtfcekiehcchebaaCl
import Derived.Test.YtfcekiehcchebaaWf
set_option linter.unusedVariables false
set_option linter.unusedSimpArgs false
set_option maxRecDepth 100000
namespace Go.Proofs.Ytfcekiehcchebaa.L
open Go.RowKit Go.ChangeShapes Go.WideShapes Go.ChangeAt
theorem HartM.right.small {m : HartM} (h : m.right) : m.small := by
  have a := h.regs; have b := h.csr; have c := h.inp; have d := h.out
  exact ⟨by omega, by omega, by omega, by omega⟩
theorem feedHart_zero {m r : HartM} {l : List Int} (h : (0, r) = feedHart m l) : m.right ∧ (∀ x ∈ l, isW x = true) ∧ m.inp.length + l.length ≤ 40 ∧ r = { m with inp := m.inp ++ l } := by
  unfold feedHart at h
  split at h
  · rename_i h0
    cases h1 : l.all isW with
    | false => rw [h1] at h; simp at h
    | true =>
      rw [h1] at h
      cases h2 : decide ((m.inp.length : Int) + l.length > 40) with
      | true => rw [h2] at h; simp at h
      | false =>
        rw [h2] at h
        have h2 := of_decide_eq_false h2
        exact ⟨hFault_right h0, List.all_eq_true.1 h1, by omega, by simpa using h⟩
  · rename_i h0
    simp only [Prod.mk.injEq] at h
    exact absurd h.1.symm h0
theorem withInp_right {m : HartM} (h : m.right) (l : List Int) (hl : l.length ≤ 40) (hw : ∀ x ∈ l, isW x = true) : ({ m with inp := l } : HartM).right := by
  obtain ⟨h1, h2, h3, h4, h5, h6, h7, h8, h9, h10, h11, h12, h13, h14, h15, h16⟩ := h
  exact ⟨h1, h2, h3, h4, h5, h6, hw, h8, hl, h10, h11, h12, h13, h14, h15, h16⟩
theorem withRung_right {m : HartM} (h : m.right) : ({ m with rung := true } : HartM).right := by
  obtain ⟨h1, h2, h3, h4, h5, h6, h7, h8, h9, h10, h11, h12, h13, h14, h15, h16⟩ := h
  exact ⟨h1, h2, h3, h4, h5, h6, h7, h8, h9, h10, h11, h12, h13, h14, h15, h16⟩
theorem deviceRead_right {m : HartM} (h : m.right) (k : Int) (h0 : 0 ≤ k) (h7 : k ≤ 7) : deviceRead m k = ⟨0, readV m k, -1, readM m k⟩ := by
  unfold deviceRead
  rw [if_pos (right_hFault h), inR_iff.2 ⟨h0, h7⟩]
  rfl
theorem deviceWrite_right {m : HartM} (h : m.right) (k w : Int) (h0 : 0 ≤ k) (h7 : k ≤ 7) : deviceWrite m k w = ⟨0, 0, writeV k w, writeM m k w⟩ := by
  unfold deviceWrite
  rw [if_pos (right_hFault h), inR_iff.2 ⟨h0, h7⟩]
  rfl
theorem devA (m r : HartM) (l : List Int) (h : (0, r) = feedHart m l) : ∃ A : Nat → HartM, r = A 0 ∧ (∀ i, (A i).right) ∧ (∀ i, i < (m.inp ++ l).length → deviceRead (A i) 1 = ⟨0, (m.inp ++ l).getD i 0, -1, A (i + 1)⟩) ∧
    (deviceRead (A 0) 6).val = (m.inp ++ l).length ∧ (deviceRead (A (m.inp ++ l).length) 1).val = 0 := by
  obtain ⟨hm, hw, hl, rfl⟩ := feedHart_zero h
  have hall : ∀ x ∈ m.inp ++ l, isW x = true := fun x hx => (List.mem_append.1 hx).elim (hm.wi x) (hw x)
  have hlen : (m.inp ++ l).length ≤ 40 := by simp; omega
  generalize m.inp ++ l = al at *
  have hr : ∀ i, ({ m with inp := al.drop i } : HartM).right := fun i => withInp_right hm _ (by simp; omega) (fun x hx => hall x (List.mem_of_mem_drop hx))
  refine ⟨fun i => { m with inp := al.drop i }, rfl, hr, fun i hi => ?_, ?_, ?_⟩
  · rw [deviceRead_right (hr i) 1 (by omega) (by omega)]
    have e1 : readV { m with inp := al.drop i } 1 = al.getD i 0 := by show (al.drop i).getD 0 0 = _; simp [List.getD, List.getElem?_drop]
    have e2 : readM { m with inp := al.drop i } 1 = { m with inp := al.drop (i + 1) } := by
      unfold readM; rw [if_pos rfl]; simp [List.drop_drop]
    rw [e1, e2]
  · rw [deviceRead_right (hr 0) 6 (by omega) (by omega)]
    show ((al.drop 0).length : Int) = _
    simp
  · rw [deviceRead_right (hr _) 1 (by omega) (by omega)]
    show (al.drop al.length).getD 0 0 = 0
    simp
theorem devB (B : HartM) (h : B.right) : deviceWrite B 5 3 = ⟨0, 0, 3, B⟩ ∧ ∃ W : HartM, deviceWrite B 0 77 = ⟨0, 0, -1, W⟩ ∧ W.out.length ≤ 41 ∧ (B.out.length = 40 → W.out = B.out) ∧ (B.out.length < 40 → W.out = B.out ++ [77]) := by
  have ho := h.out
  constructor
  · rw [deviceWrite_right h 5 3 (by omega) (by omega)]
    rfl
  · rw [deviceWrite_right h 0 77 (by omega) (by omega)]
    have e : wrapW 77 = 77 := by decide
    by_cases h1 : B.out.length < 40
    · refine ⟨{ B with out := B.out ++ [77] }, ?_, by simp; omega, fun h2 => by omega, fun _ => rfl⟩
      have e2 : writeM B 0 77 = { B with out := B.out ++ [77] } := by unfold writeM; rw [if_pos rfl, if_pos h1, e]
      rw [e2]
      rfl
    · refine ⟨B, ?_, by omega, fun _ => rfl, fun h2 => absurd h2 h1⟩
      have e2 : writeM B 0 77 = B := by unfold writeM; rw [if_pos rfl, if_neg h1]
      rw [e2]
      rfl
theorem devC (B : HartM) (h : B.right) : ringHart B = (0, { B with rung := true }) ∧ ∃ v, pendingOf { B with rung := true } = (0, v) ∧ v ≥ 2 := by
  constructor
  · exact if_pos (right_hFault h)
  · refine ⟨_, if_pos (right_hFault (withRung_right h)), ?_⟩
    unfold pend
    simp only [if_true]
    repeat' split
    all_goals omega
abbrev hartC1 (m : HartM) : List LV := [.d (ints m.regs), di m.pc, .d (ints m.csr), dv (.bool m.halted), dv (.bool m.waiting), dv (.bool m.rung), di m.done, .d (ints m.inp), .d (ints m.out)]
set_option maxHeartbeats 4000000 in
theorem c_laws_FnDevices (c : List Int) (ho : okBytes c) : FnOK Try.prog 6 [.d (bytesD c)] (rb true) := by
  have hrb := reach_eq
  have hlen : c.length * 1 ≤ 140737488351232 := by have := ho.1; omega
  refine fn_of lv6 Try.func6 rfl rfl (by kernel_rfl) rfl ?_
  refine .inl ⟨_, _, rfl, c_laws_lwBig c (by omega), rfl, ?_⟩
  refine bsplit_intro (fun h => ?_) (fun h => ?_)
  · exact ⟨⟨rfl, trivial⟩, rfl⟩
  have hc := ho.code h
  refine .inr ⟨rfl, use_fn ⟨_, _, rfl, c_spec_DrawFeedHart c hc, ?_⟩⟩
  rintro _ ⟨m, l, hs, hf, hl, rfl⟩
  refine ⟨rfl, ?_⟩
  have ci := c_impl_FeedHart m hs l (by omega)
  have cs := c_spec_FeedHart m hs l (by omega)
  obtain ⟨⟨code, r⟩, hq⟩ : ∃ q, q = feedHart m l := ⟨_, rfl⟩
  rw [← hq] at ci cs
  by_cases h0 : code = 0
  rotate_left
  · refine .inl ⟨_, _, rfl, ci, rfl, ?_⟩
    refine bsplit_of_true (by simp; exact h0) ?_
    refine .inl ⟨_, _, rfl, cs, rfl, ?_⟩
    refine chk_intro (by kernel_rfl) ?_
    exact ⟨⟨congrArg Value.bool (by simp), trivial⟩, rfl⟩
  subst h0
  obtain ⟨hm, _, hal, hr⟩ := feedHart_zero hq
  obtain ⟨A, hA0, hAr, hAd, hA6, hAn⟩ := devA m r l hq
  rw [hA0] at ci
  have happ : ∀ i, upto (0 + m.inp.length) (upto 0 (fun i => ([] : List (List D)).getD i []) (intsF m.inp)) (intsF l) i = intsF (m.inp ++ l) i := fun i => by
    rw [Nat.zero_add]; exact upto_ints m.inp l i
  have hln : 0 + m.inp.length + l.length = (m.inp ++ l).length := by simp
  have hal2 : (m.inp ++ l).length ≤ 40 := by simp; omega
  have hin := hm.inp
  generalize m.inp ++ l = al at *
  obtain ⟨B, hB⟩ : ∃ B, B = A al.length := ⟨_, rfl⟩
  have hBr : B.right := hB ▸ hAr _
  obtain ⟨hg, W, hW, hWl, hW1, hW2⟩ := devB B hBr
  obtain ⟨hrg, pv, hpv, hpv2⟩ := devC B hBr
  obtain ⟨d1, hd1⟩ : ∃ q, q = deviceRead B 1 := ⟨_, rfl⟩
  have c1 := c_impl_DeviceRead B hBr.small 1
  rw [← hB, ← hd1] at hAn
  rw [← hd1] at c1
  have cw := c_impl_DeviceWrite B hBr.small 0 77
  rw [hW] at cw
  have cg := c_impl_DeviceWrite B hBr.small 5 3
  rw [hg] at cg
  have cr := c_impl_RingHart B hBr.small
  rw [hrg] at cr
  have cp := c_impl_PendingOf { B with rung := true } (withRung_right hBr).small
  rw [hpv] at cp
  have hBo := hBr.out
  obtain ⟨d6, hd6⟩ : ∃ q, q = deviceRead (A 0) 6 := ⟨_, rfl⟩
  have c6 := c_impl_DeviceRead (A 0) (hAr 0).small 6
  rw [← hd6] at c6 hA6
  refine .inl ⟨_, _, rfl, ci, rfl, ?_⟩
  refine bsplit_of_false (by simp) ?_
  refine ask_intro ⟨by show (0 + m.inp.length) * 8 ≤ 140737488355328; omega, by show 0 + m.inp.length ≤ 9223372036854775807; omega, fun i hi => rfl⟩ ?_
  refine ask_intro ⟨by show (0 + m.inp.length + l.length) * 8 ≤ 140737488355328; omega, by show 0 + m.inp.length + l.length ≤ 9223372036854775807; omega, fun i hi => rfl⟩ ?_
  refine .inl ⟨_, _, rfl, c6, rfl, ?_⟩
  refine bsplit_of_false (by rw [hA6, ← hln]; simp) ?_
  refine ⟨{ i : Nat // i ≤ al.length }, fun i => ⟨frL [(6, .ptr 10 0), (7, .d (ints al)), (8, di i.1)], hpL [(10, .box 30 (hartC1 (A i.1)))], 100, 0⟩, fun i => al.length - i.1, ⟨0, by omega⟩,
    le_of [(10, 20544)] rfl rfl rfl rfl (tellHp_box rfl rfl ⟨⟨rfl, DLe.refl _⟩, rfl, ⟨rfl, DLe.refl _⟩, rfl, rfl, rfl, rfl, ⟨rfl, DLe.refl _⟩, ⟨rfl, DLe.refl _⟩, trivial⟩ tellHp_nil)
      (tellFr_ptr rfl rfl (tellFr_x rfl ⟨rfl, DLe.l hln (fun i hi => happ i)⟩ (tellFr_v rfl rfl trivial))), ?_⟩
  rintro ⟨i, hi⟩
  refine bsplit_intro (fun hb => ?_) (fun hb => ?_)
  · have hi2 : i < al.length := by simp at hb; omega
    have cd := c_impl_DeviceRead (A i) (hAr i).small 1
    rw [hAd i hi2] at cd
    have cf := c_impl_HartFault (A (i + 1)) (hAr (i + 1)).small
    rw [right_hFault (hAr (i + 1))] at cf
    have hw : IntKind.i64.wrap ((i : Int) + 1) = ((i + 1 : Nat) : Int) := wrap_i64 (i + 1) (by omega) (by omega)
    refine .inl ⟨_, _, rfl, cd, rfl, ?_⟩
    repeat' (first | refine bsplit_true ?_ | refine bsplit_false ?_)
    refine ask_intro ⟨by omega, by show (i : Int) < al.length; omega, rfl⟩ ?_
    repeat' (first | refine bsplit_true ?_ | refine bsplit_false ?_)
    refine bsplit_of_false (by simp; done) ?_
    repeat' (first | refine bsplit_true ?_ | refine bsplit_false ?_)
    refine .inl ⟨_, _, rfl, cf, rfl, ?_⟩
    repeat' (first | refine bsplit_true ?_ | refine bsplit_false ?_)
    refine chk_intro (by kernel_rfl) ?_
    repeat' (first | refine bsplit_true ?_ | refine bsplit_false ?_)
    exact ⟨⟨i + 1, by omega⟩, le_of [(10, 10)] rfl rfl rfl rfl (tellHp_box rfl rfl ⟨⟨rfl, DLe.refl _⟩, rfl, ⟨rfl, DLe.refl _⟩, rfl, rfl, rfl, rfl, ⟨rfl, DLe.refl _⟩, ⟨rfl, DLe.refl _⟩, trivial⟩ tellHp_nil)
      (tellFr_ptr rfl rfl (tellFr_d rfl (DLe.refl _) (tellFr_v rfl (congrArg (Value.int .i64) hw) trivial))), by show al.length - (i + 1) < al.length - i; omega⟩
  have hi : i = al.length := by simp at hb; omega
  subst hi
  rw [← hB]
  refine .inl ⟨_, _, rfl, cw, rfl, ?_⟩
  refine .inl ⟨_, _, rfl, cg, rfl, ?_⟩
  have fin : ∀ b : Bool, b = true → True := fun _ _ => trivial
  by_cases h40 : B.out.length = 40
  · have hWo := hW1 h40
    have cn : FnOK Try.prog 34 [.d (ints W.out), .d (ints B.out)] (rb (W.out == B.out)) := c_laws_lwNums _ _ (by omega)
    have e1 : (W.out == B.out) = true := by rw [hWo]; simp
    rw [e1] at cn
    refine bsplit_of_true (by simp; omega) ?_
    repeat' (first | refine bsplit_true ?_ | refine bsplit_false ?_)
    refine .inl ⟨_, _, rfl, cn, rfl, ?_⟩
    repeat' (first | refine bsplit_true ?_ | refine bsplit_false ?_)
    refine .inl ⟨_, _, rfl, c1, rfl, ?_⟩
    refine bsplit_of_true (by rw [hAn]; rfl) ?_
    repeat' (first | refine bsplit_true ?_ | refine bsplit_false ?_)
    refine .inl ⟨_, _, rfl, cr, rfl, ?_⟩
    repeat' (first | refine bsplit_true ?_ | refine bsplit_false ?_)
    refine .inl ⟨_, _, rfl, cr, rfl, ?_⟩
    repeat' (first | refine bsplit_true ?_ | refine bsplit_false ?_)
    refine .inl ⟨_, _, rfl, cp, rfl, ?_⟩
    repeat' (first | refine bsplit_true ?_ | refine bsplit_false ?_)
    exact ⟨⟨congrArg Value.bool (by simp; omega), trivial⟩, rfl⟩
  · have hWo := hW2 (by omega)
    have hWl : W.out.length = B.out.length + 1 := by rw [hWo]; simp
    refine bsplit_of_false (by simp; omega) ?_
    repeat' (first | refine bsplit_true ?_ | refine bsplit_false ?_)
    refine bsplit_of_true (by simp; omega) ?_
    repeat' (first | refine bsplit_true ?_ | refine bsplit_false ?_)
    have hw : IntKind.i64.wrap ((B.out.length : Int) + 1) = (B.out.length : Int) + 1 := wrap_i64 _ (by omega) (by omega)
    refine bsplit_of_true (by rw [hw, hWl]; simp) ?_
    repeat' (first | refine bsplit_true ?_ | refine bsplit_false ?_)
    refine ask_intro ⟨by omega, by show (B.out.length : Int) < W.out.length; omega⟩ ?_
    repeat' (first | refine bsplit_true ?_ | refine bsplit_false ?_)
    refine ask_intro (show B.out.length < W.out.length by omega) ?_
    repeat' (first | refine bsplit_true ?_ | refine bsplit_false ?_)
    refine .inl ⟨_, _, rfl, c1, rfl, ?_⟩
    refine bsplit_of_true (by rw [hAn]; rfl) ?_
    repeat' (first | refine bsplit_true ?_ | refine bsplit_false ?_)
    refine bsplit_of_true (by simp [hWo]) ?_
    repeat' (first | refine bsplit_true ?_ | refine bsplit_false ?_)
    refine .inl ⟨_, _, rfl, cr, rfl, ?_⟩
    repeat' (first | refine bsplit_true ?_ | refine bsplit_false ?_)
    refine .inl ⟨_, _, rfl, cr, rfl, ?_⟩
    repeat' (first | refine bsplit_true ?_ | refine bsplit_false ?_)
    refine .inl ⟨_, _, rfl, cp, rfl, ?_⟩
    repeat' (first | refine bsplit_true ?_ | refine bsplit_false ?_)
    exact ⟨⟨congrArg Value.bool (by simp; omega), trivial⟩, rfl⟩
end Go.Proofs.Ytfcekiehcchebaa.L
