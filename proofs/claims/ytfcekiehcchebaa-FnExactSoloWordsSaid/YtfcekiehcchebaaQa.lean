/- What the functions that look at a lonely machine compute: contracts. -/
import Derived.Test.YtfcekiehcchebaaPb
import Derived.Test.YtfcekiehcchebaaWd
set_option linter.unusedVariables false
set_option linter.unusedSimpArgs false
set_option maxRecDepth 100000
namespace Go.Proofs.Ytfcekiehcchebaa.L
open Go.RowKit
theorem LVLe.pre (xs ys : List D) : LVLe (.dptr (xs ++ ys)) (.dptr xs) := fun W F v hv => by
  cases hv with
  | dptr vs hs hI hc hr =>
    refine .dptr vs hs hI (fun j hj => hc j (by simp; omega)) (fun j hj => ?_)
    have := hr j (by simp; omega)
    have e : (xs ++ ys).getD j (.v undef) = xs.getD j (.v undef) := by simp [List.getD, List.getElem?_append, hj]
    rwa [e] at this
structure SoloM where
  hart : HartM
  pages : List PageM
  mem : List Int
  deriving DecidableEq
abbrev soloD (x : SoloM) : List D := [ints x.hart.regs, dI x.hart.pc, ints x.hart.csr, dB x.hart.halted, dB x.hart.waiting, dB x.hart.rung, dI x.hart.done, ints x.hart.inp, ints x.hart.out, Go.Proofs.Ytfcekiehcchebaa.L.pages x.pages, ints x.mem]
abbrev soloLV (x : SoloM) : LV := .agg [.d (ints x.hart.regs), di x.hart.pc, .d (ints x.hart.csr), dv (.bool x.hart.halted), dv (.bool x.hart.waiting), dv (.bool x.hart.rung), di x.hart.done, .d (ints x.hart.inp), .d (ints x.hart.out), .d (Go.Proofs.Ytfcekiehcchebaa.L.pages x.pages), .d (ints x.mem)]
abbrev soloR (x : SoloM) : RV1 := .agg [oInts x.hart.regs, .v (.int .i64 x.hart.pc), oInts x.hart.csr, .v (.bool x.hart.halted), .v (.bool x.hart.waiting), .v (.bool x.hart.rung), .v (.int .i64 x.hart.done), oInts x.hart.inp, oInts x.hart.out, oPages x.pages, oInts x.mem]
structure SoloM.small (x : SoloM) : Prop where
  hart : x.hart.small
  pages : x.pages.length * 16 ≤ 140737488355328
  mem : x.mem.length * 8 ≤ 140737488355328
theorem c_laws_toSolo (x : SoloM) (hs : x.small) : FnOK Try.prog 15 [soloLV x] (.r (soloR x)) := by
  refine fn_of lv15 Try.func15 rfl rfl (by kernel_rfl) rfl ?_
  refine .inl ⟨_, _, rfl, c_laws_toHart x.hart hs.hart, rfl, ?_⟩
  refine .inl ⟨_, _, rfl, c_laws_toPageS x.pages hs.pages, rfl, ?_⟩
  refine .inl ⟨_, _, rfl, c_laws_toInt64S x.mem hs.mem, rfl, ?_⟩
  exact ⟨⟨⟨rfl, rfl, rfl, fun i hi => ⟨rfl, rfl⟩⟩, rfl, ⟨rfl, rfl, rfl, fun i hi => ⟨rfl, rfl⟩⟩, rfl, rfl, rfl, rfl, ⟨rfl, rfl, rfl, fun i hi => ⟨rfl, rfl⟩⟩, ⟨rfl, rfl, rfl, fun i hi => ⟨rfl, rfl⟩⟩, ⟨rfl, rfl, rfl, fun i hi => ⟨rfl, rfl⟩⟩, ⟨rfl, rfl, rfl, fun i hi => ⟨rfl, rfl⟩⟩, trivial⟩, rfl⟩
theorem c_laws_eqSolo (x y : SoloM) (hs : x.small) : FnOK Try.prog 17 [soloLV x, soloLV y] (rb (decide (x = y))) := by
  have hp := hs.pages
  have hm := hs.mem
  refine fn_of lv17 Try.func17 rfl rfl (by kernel_rfl) rfl ?_
  refine .inl ⟨_, _, rfl, c_laws_eqHart x.hart y.hart hs.hart, rfl, ?_⟩
  refine bsplit_intro (fun h => ?_) (fun h => ?_)
  · refine ⟨⟨congrArg Value.bool ?_, trivial⟩, rfl⟩
    obtain ⟨a1, a2, a3⟩ := x; obtain ⟨b1, b2, b3⟩ := y; simp_all
  refine .inl ⟨_, _, rfl, c_laws_eqPageS x.pages y.pages (by omega), rfl, ?_⟩
  refine bsplit_intro (fun h1 => ?_) (fun h1 => ?_)
  · refine ⟨⟨congrArg Value.bool ?_, trivial⟩, rfl⟩
    obtain ⟨a1, a2, a3⟩ := x; obtain ⟨b1, b2, b3⟩ := y; simp_all
  refine .inl ⟨_, _, rfl, c_laws_eqInt64S x.mem y.mem (by omega), rfl, ?_⟩
  refine bsplit_intro (fun h2 => ?_) (fun h2 => ?_)
  all_goals refine ⟨⟨congrArg Value.bool ?_, trivial⟩, rfl⟩
  all_goals (obtain ⟨a1, a2, a3⟩ := x; obtain ⟨b1, b2, b3⟩ := y; simp_all)
def soloFault (x : SoloM) : Int := if hFault x.hart = 0 then (if pagesFault x.pages 8 = 0 then (bif (memFault x.mem != 0) || ((x.mem.length : Int) != 64) then 1 else 0) else pagesFault x.pages 8) else hFault x.hart
theorem c_spec_SoloFault (x : SoloM) (hs : x.small) (hp : x.pages.length ≤ 1048576) (hm : x.mem.length ≤ 1048576) : FnOK Try.prog 14 [soloLV x] (ri (soloFault x)) := by
  generalize hr : soloFault x = r
  unfold soloFault at hr
  refine fn_of lv14 Try.func14 rfl rfl (by kernel_rfl) rfl ?_
  refine .inl ⟨_, _, rfl, (c_spec_l8Fault x.hart hs.hart).weak ⟨LVLe.pre (hartD x.hart) [Go.Proofs.Ytfcekiehcchebaa.L.pages x.pages, ints x.mem], trivial⟩, rfl, ?_⟩
  refine bsplit_intro (fun h => ?_) (fun h => ?_)
  · rw [if_neg (by simpa using h)] at hr
    exact ⟨⟨congrArg (Value.int .i64) hr, trivial⟩, rfl⟩
  rw [if_pos (by simpa using h)] at hr
  refine .inl ⟨_, _, rfl, c_spec_PagesFault x.pages 8 hp, rfl, ?_⟩
  refine bsplit_intro (fun h3 => ?_) (fun h3 => ?_)
  · rw [if_neg (by simpa using h3)] at hr
    exact ⟨⟨congrArg (Value.int .i64) hr, trivial⟩, rfl⟩
  rw [if_pos (by simpa using h3)] at hr
  refine .inl ⟨_, _, rfl, c_spec_MemoryFault x.mem hm, rfl, ?_⟩
  refine bsplit_intro (fun h1 => ?_) (fun h1 => ?_)
  · repeat' (first | refine bsplit_true ?_ | refine bsplit_false ?_)
    rw [h1] at hr
    exact ⟨⟨congrArg (Value.int .i64) hr, trivial⟩, rfl⟩
  repeat' (first | refine bsplit_true ?_ | refine bsplit_false ?_)
  rw [h1, Bool.false_or] at hr
  refine bsplit_intro (fun h2 => ?_) (fun h2 => ?_)
  · rw [h2] at hr
    exact ⟨⟨congrArg (Value.int .i64) hr, trivial⟩, rfl⟩
  · rw [h2] at hr
    exact ⟨⟨congrArg (Value.int .i64) hr, trivial⟩, rfl⟩
theorem c_impl_SoloFault (x : SoloM) (hs : x.small) (hp : x.pages.length ≤ 1048576) (hm : x.mem.length ≤ 1048576) : FnOK Try.prog 16 [soloLV x] (ri (soloFault x)) := by
  generalize hr : soloFault x = r
  unfold soloFault at hr
  have e2 : firstNZ [hFault x.hart, pagesFault x.pages 8] = if hFault x.hart = 0 then pagesFault x.pages 8 else hFault x.hart := by
    simp only [firstNZ]
    split
    · split
      · rename_i h; exact h.symm
      · rfl
    · rfl
  refine fn_of lv16 Try.func16 rfl rfl (by kernel_rfl) rfl ?_
  refine .inl ⟨_, _, rfl, c_impl_HartFault x.hart hs.hart, rfl, ?_⟩
  refine .inl ⟨_, _, rfl, c_impl_PagesFault x.pages 8 hp, rfl, ?_⟩
  refine .inl ⟨_, _, rfl, (c_impl_firstOf [hFault x.hart, pagesFault x.pages 8] (by simp)).weak ⟨LVLe.d (DLe.l rfl (fun i hi => litD_eq [hFault x.hart, pagesFault x.pages 8] i hi)), trivial⟩, rfl, ?_⟩
  refine chk_intro (by kernel_rfl) ?_
  refine bsplit_intro (fun h => ?_) (fun h => ?_)
  · have h : ¬ firstNZ [hFault x.hart, pagesFault x.pages 8] = 0 := by simpa only [bne_iff_ne, ne_eq] using h
    refine ⟨⟨congrArg (Value.int .i64) ?_, trivial⟩, rfl⟩
    show firstNZ [hFault x.hart, pagesFault x.pages 8] = r
    rw [e2] at h ⊢
    rw [← hr]
    split
    · rename_i h0
      rw [if_pos h0] at h
      rw [if_neg h]
    · rfl
  have h : firstNZ [hFault x.hart, pagesFault x.pages 8] = 0 := by simpa only [bne_eq_false_iff_eq] using h
  rw [e2] at h
  have h0 : hFault x.hart = 0 := by
    by_cases h0 : hFault x.hart = 0
    · exact h0
    · rw [if_neg h0] at h; exact h
  rw [if_pos h0] at h
  rw [if_pos h0, if_pos h] at hr
  refine .inl ⟨_, _, rfl, c_impl_MemoryFault x.mem hm, rfl, ?_⟩
  refine bsplit_intro (fun h1 => ?_) (fun h1 => ?_)
  · repeat' (first | refine bsplit_true ?_ | refine bsplit_false ?_)
    rw [h1] at hr
    exact ⟨⟨congrArg (Value.int .i64) hr, trivial⟩, rfl⟩
  repeat' (first | refine bsplit_true ?_ | refine bsplit_false ?_)
  rw [h1, Bool.false_or] at hr
  refine bsplit_intro (fun h2 => ?_) (fun h2 => ?_)
  · rw [h2] at hr
    exact ⟨⟨congrArg (Value.int .i64) hr, trivial⟩, rfl⟩
  · rw [h2] at hr
    exact ⟨⟨congrArg (Value.int .i64) hr, trivial⟩, rfl⟩
theorem hSz_le (m : HartM) (h : ¬ hSz m 1048576 < 0) : 0 ≤ hSz m 1048576 ∧ hSz m 1048576 ≤ 1048576 := by
  refine ⟨by omega, ?_⟩
  unfold hSz
  simp only
  split <;> omega
theorem szSoloE (x : SoloM) (hs : x.small) : ∃ v : Int, (¬ v < 0 → x.hart.few ∧ x.pages.length ≤ 1048576 ∧ x.mem.length ≤ 1048576) ∧ FnOK Try.prog 13 [soloLV x, di 1048576] (ri v) := by
  have hp := hs.pages
  have hm := hs.mem
  by_cases h1 : hSz x.hart 1048576 < 0
  · refine ⟨-1, by omega, fn_of lv13 Try.func13 rfl rfl (by kernel_rfl) rfl ?_⟩
    refine .inl ⟨_, _, rfl, c_laws_szHart x.hart hs.hart _ (by decide) (by decide), rfl, ?_⟩
    refine bsplit_of_true (decide_eq_true h1) ?_
    exact ⟨⟨rfl, trivial⟩, rfl⟩
  obtain ⟨q1, q2⟩ := hSz_le x.hart h1
  have hf := few_of_sz (decide_eq_false h1)
  have cp := c_laws_szPageS x.pages (hSz x.hart 1048576) (by omega) (by omega)
  by_cases h2 : hSz x.hart 1048576 - x.pages.length < 0
  · rw [if_pos h2] at cp
    refine ⟨-1, by omega, fn_of lv13 Try.func13 rfl rfl (by kernel_rfl) rfl ?_⟩
    refine .inl ⟨_, _, rfl, c_laws_szHart x.hart hs.hart _ (by decide) (by decide), rfl, ?_⟩
    refine bsplit_of_false (decide_eq_false h1) ?_
    refine .inl ⟨_, _, rfl, cp, rfl, ?_⟩
    repeat' (first | refine bsplit_true ?_ | refine bsplit_false ?_)
    exact ⟨⟨rfl, trivial⟩, rfl⟩
  rw [if_neg h2] at cp
  have cm := c_laws_szInt64S x.mem (hSz x.hart 1048576 - x.pages.length) (by omega) (by omega)
  by_cases h3 : hSz x.hart 1048576 - x.pages.length - x.mem.length < 0
  · rw [if_pos h3] at cm
    refine ⟨-1, by omega, fn_of lv13 Try.func13 rfl rfl (by kernel_rfl) rfl ?_⟩
    refine .inl ⟨_, _, rfl, c_laws_szHart x.hart hs.hart _ (by decide) (by decide), rfl, ?_⟩
    refine bsplit_of_false (decide_eq_false h1) ?_
    refine .inl ⟨_, _, rfl, cp, rfl, ?_⟩
    refine bsplit_of_false (decide_eq_false h2) ?_
    refine .inl ⟨_, _, rfl, cm, rfl, ?_⟩
    repeat' (first | refine bsplit_true ?_ | refine bsplit_false ?_)
    exact ⟨⟨rfl, trivial⟩, rfl⟩
  rw [if_neg h3] at cm
  refine ⟨hSz x.hart 1048576 - x.pages.length - x.mem.length, fun _ => ⟨hf, by omega, by omega⟩, fn_of lv13 Try.func13 rfl rfl (by kernel_rfl) rfl ?_⟩
  refine .inl ⟨_, _, rfl, c_laws_szHart x.hart hs.hart _ (by decide) (by decide), rfl, ?_⟩
  refine bsplit_of_false (decide_eq_false h1) ?_
  refine .inl ⟨_, _, rfl, cp, rfl, ?_⟩
  refine bsplit_of_false (decide_eq_false h2) ?_
  refine .inl ⟨_, _, rfl, cm, rfl, ?_⟩
  refine bsplit_of_false (decide_eq_false h3) ?_
  exact ⟨⟨rfl, trivial⟩, rfl⟩
end Go.Proofs.Ytfcekiehcchebaa.L
