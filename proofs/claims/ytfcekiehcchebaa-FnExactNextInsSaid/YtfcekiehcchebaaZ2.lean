/- The law FnExactNextIns answers true at every input that its statement lets in. -/
import Derived.Test.YtfcekiehcchebaaRows
import Derived.Test.YtfcekiehcchebaaZ1
/- What the functions compute that tell the words of a lonely machine's page: contracts. -/
set_option linter.unusedVariables false
set_option linter.unusedSimpArgs false
set_option maxRecDepth 100000
namespace Go.Proofs.Ytfcekiehcchebaa.L
open Go.RowKit
abbrev irsR (p : Int × List Int) : RV1 := .agg [.v (.int .i64 p.1), oInts p.2]
abbrev irsLV (p : Int × List Int) : LV := .agg [di p.1, .d (ints p.2)]
def soloWords (x : SoloM) (p : Int) : Int × List Int := if soloFault x = 0 then (bif !inR p 0 7 then (3, []) else (0, pageW x.mem p)) else (soloFault x, [])
theorem soloFault_mem {x : SoloM} (h : soloFault x = 0) : x.mem.length = 64 := by
  unfold soloFault at h
  split at h
  · split at h
    · cases hb : (memFault x.mem != 0) || ((x.mem.length : Int) != 64) with
      | true => rw [hb] at h; simp at h
      | false => simp only [Bool.or_eq_false_iff, bne_eq_false_iff_eq] at hb; omega
    · rename_i h2; exact absurd h h2
  · rename_i h2; exact absurd h h2
theorem c_impl_SoloWords (x : SoloM) (hs : x.small) (hp : x.pages.length ≤ 1048576) (hm : x.mem.length ≤ 1048576) (p : Int) : FnOK Try.prog 38 [soloLV x, di p] (.r (irsR (soloWords x p))) := by
  generalize hr : soloWords x p = r
  unfold soloWords at hr
  refine fn_of lv38 Try.func38 rfl rfl (by kernel_rfl) rfl ?_
  refine .inl ⟨_, _, rfl, c_impl_SoloFault x hs hp hm, rfl, ?_⟩
  refine bsplit_intro (fun h => ?_) (fun h => ?_)
  · rw [if_neg (by simpa using h)] at hr
    subst hr
    exact ⟨⟨rfl, ⟨rfl, rfl⟩, trivial⟩, rfl⟩
  have h0 : soloFault x = 0 := by simpa using h
  have hl := soloFault_mem h0
  rw [if_pos h0] at hr
  refine .inl ⟨_, _, rfl, c_impl_within _ _ _, rfl, ?_⟩
  refine bsplit_intro (fun h1 => ?_) (fun h1 => ?_)
  · rw [h1] at hr
    subst hr
    exact ⟨⟨rfl, ⟨rfl, rfl⟩, trivial⟩, rfl⟩
  have hk := inR_iff.1 (show inR p 0 7 = true by simpa using h1)
  rw [h1] at hr
  subst hr
  refine .inl ⟨_, _, rfl, c_impl_pageOf x.mem p hk.1 (by omega) (by omega), rfl, ?_⟩
  exact ⟨⟨rfl, ⟨rfl, rfl, rfl, fun i hi => ⟨rfl, rfl⟩⟩, trivial⟩, rfl⟩
theorem c_spec_SoloWords (x : SoloM) (hs : x.small) (hp : x.pages.length ≤ 1048576) (hm : x.mem.length ≤ 1048576) (p : Int) : FnOK Try.prog 37 [soloLV x, di p] (.r (irsR (soloWords x p))) := by
  generalize hr : soloWords x p = r
  unfold soloWords at hr
  refine fn_of lv37 Try.func37 rfl rfl (by kernel_rfl) rfl ?_
  refine .inl ⟨_, _, rfl, c_spec_SoloFault x hs hp hm, rfl, ?_⟩
  refine bsplit_intro (fun h => ?_) (fun h => ?_)
  · rw [if_neg (by simpa using h)] at hr
    subst hr
    exact ⟨⟨rfl, ⟨rfl, rfl⟩, trivial⟩, rfl⟩
  have h0 : soloFault x = 0 := by simpa using h
  have hl := soloFault_mem h0
  rw [if_pos h0] at hr
  refine .inl ⟨_, _, rfl, c_spec_l1In _ _ _, rfl, ?_⟩
  refine bsplit_intro (fun h1 => ?_) (fun h1 => ?_)
  · rw [h1] at hr
    subst hr
    exact ⟨⟨rfl, ⟨rfl, rfl⟩, trivial⟩, rfl⟩
  have hk := inR_iff.1 (show inR p 0 7 = true by simpa using h1)
  rw [h1] at hr
  subst hr
  have cw := c_spec_l7Words x.mem [p] hm (by simp) (fun q hq => by obtain rfl : q = p := by simpa using hq
                                                                   exact ⟨hk.1, by omega⟩)
  rw [show wordsL x.mem [p] = pageW x.mem p by simp [wordsL]] at cw
  refine .inl ⟨_, _, rfl, cw.weak ⟨LVLe.refl _, LVLe.d (DLe.l rfl (fun i hi => litD_eq [p] i hi)), trivial⟩, rfl, ?_⟩
  exact ⟨⟨rfl, ⟨rfl, rfl, rfl, fun i hi => ⟨rfl, rfl⟩⟩, trivial⟩, rfl⟩
end Go.Proofs.Ytfcekiehcchebaa.L

/- What the law functions compute on an answer that is a code and a row of words: contracts. -/
set_option linter.unusedVariables false
set_option linter.unusedSimpArgs false
set_option maxRecDepth 100000
namespace Go.Proofs.Ytfcekiehcchebaa.L
open Go.RowKit
theorem c_laws_eqIntsResult (p q : Int × List Int) (hs : p.2.length ≤ 9223372036854775807) : FnOK Try.prog 39 [irsLV p, irsLV q] (rb (decide (p = q))) := by
  refine fn_of lv39 Try.func39 rfl rfl (by kernel_rfl) rfl ?_
  repeat' (first | refine bsplit_true ?_ | refine bsplit_false ?_ | refine .inl ⟨_, _, rfl, c_laws_eqInt64S p.2 q.2 hs, rfl, ?_⟩ | refine bsplit_intro (fun h => ?_) (fun h => ?_))
  all_goals refine ⟨⟨congrArg Value.bool ?_, trivial⟩, rfl⟩
  all_goals (obtain ⟨a1, a2⟩ := p; obtain ⟨b1, b2⟩ := q; simp_all)
theorem c_laws_markIntsResult (p : Int × List Int) (k : Int) (hf : p.2.length ≤ 1099511627776) (hk : 0 ≤ k) (hk2 : k ≤ 1099511627776) : MutOK Try.prog 41 [.agg [di p.1, .row 0], di k] 1 [(0, rowE p.2)] (di (k + p.2.length)) 1 [(0, rowM p.2 k)] := by
  refine mut_fn_of lv41 Try.func41 rfl rfl (by kernel_rfl) rfl [] ?_
  refine .inr ⟨rfl, use_mut ⟨_, _, _, _, _, _, rfl, rfl, c_laws_markInt64S p.2 k hf hk hk2, rfl, ?_⟩⟩
  exact chk_intro (by kernel_rfl) ⟨tellV_v rfl rfl, tellHp_row rfl rfl rfl (fun j hj => rfl) tellHp_nil⟩
theorem c_laws_heldIntsResult (p : Int × List Int) (k : Int) (hf : p.2.length ≤ 1099511627776) (hk : 0 ≤ k) (hk2 : k ≤ 1099511627776) : FnOK Try.prog 42 [.agg [di p.1, datM p.2 k], di k] (ri (k + p.2.length)) := by
  refine fn_of lv42 Try.func42 rfl rfl (by kernel_rfl) rfl ?_
  refine .inl ⟨_, _, rfl, c_laws_heldInt64S k p.2.length hf hk hk2, rfl, ?_⟩
  refine bsplit_of_false (decide_eq_false (show ¬ k + (p.2.length : Int) < 0 by omega)) ?_
  exact ⟨⟨rfl, trivial⟩, rfl⟩
end Go.Proofs.Ytfcekiehcchebaa.L

/- What the law functions compute that mark pages: contracts. -/
set_option linter.unusedVariables false
set_option linter.unusedSimpArgs false
set_option maxRecDepth 100000
namespace Go.Proofs.Ytfcekiehcchebaa.L
open Go.RowKit
abbrev rowP (l : List PageM) : Ent := .row 129 2 l.length (pagesF l)
/-- pages that bear the numbers from k on -/
abbrev pageMk (k : Int) (j : Nat) : List D := [.v (.int .i64 (k + 2 * (j : Int))), .v (.int .i64 (k + 2 * (j : Int) + 1))]
theorem c_laws_markPageS (l : List PageM) (k : Int) (hl : l.length ≤ 1099511627776) (hk : 0 ≤ k) (hk2 : k ≤ 1099511627776) :
    MutOK Try.prog 51 [.row 0, di k] 1 [(0, rowP l)] (di (k + 2 * l.length)) 1 [(0, .row 129 2 l.length (pageMk k))] := by
  refine mut_fn_of lv51 Try.func51 rfl rfl (by kernel_rfl) rfl [] ?_
  refine ⟨{ i : Nat // i ≤ l.length }, fun i => ⟨frL [(0, .row 0), (1, di (k + 2 * (i.1 : Int))), (5, di i.1)], hpL [(0, .row 129 2 l.length fun j => if j < i.1 then pageMk k j else pagesF l j)], 1, 1⟩, fun i => l.length - i.1, ⟨0, by omega⟩,
    le_of [] rfl rfl rfl rfl (tellHp_row rfl rfl rfl (fun i hi => rfl) tellHp_nil) (tellFr_row rfl rfl (tellFr_v rfl (congrArg (Value.int .i64) (?_ : k = k + 2 * ((0 : Nat) : Int))) (tellFr_v rfl rfl trivial))), ?_⟩
  · omega
  rintro ⟨i, hi⟩
  refine bsplit_intro (fun h => ?_) (fun h => ?_)
  · have h : i < l.length := by simp at h; exact h
    have w1 : IntKind.i64.wrap (k + 2 * (i : Int) + 1) = k + 2 * (i : Int) + 1 := wrap_i64 _ (by omega) (by omega)
    refine ask_intro ⟨by omega, by simp; omega⟩ ?_
    refine ask_intro (by show i < l.length; exact h) ?_
    refine ask_intro ⟨by omega, by simp; omega⟩ ?_
    refine ask_intro (by show i < l.length; exact h) ?_
    refine ⟨⟨i + 1, by omega⟩, le_of [] rfl rfl rfl rfl (tellHp_row rfl rfl rfl (fun j hj => ?_) tellHp_nil) (tellFr_row rfl rfl (tellFr_v rfl (congrArg (Value.int .i64) (?_ : IntKind.i64.wrap (IntKind.i64.wrap (k + 2 * (i : Int) + 1) + 1) = k + 2 * ((i + 1 : Nat) : Int))) (tellFr_v rfl (congrArg (Value.int .i64) (?_ : IntKind.i64.wrap ((i : Int) + 1) = ((i + 1 : Nat) : Int))) trivial))), by show l.length - (i + 1) < l.length - i; omega⟩
    · show (if j = i then splice (if j = i then splice (if j < i then pageMk k j else pagesF l j) 0 [D.v (.int .i64 (k + 2 * (i : Int)))] else if j < i then pageMk k j else pagesF l j) 1 [D.v (.int .i64 (IntKind.i64.wrap (k + 2 * (i : Int) + 1)))] else if j = i then splice (if j < i then pageMk k j else pagesF l j) 0 [D.v (.int .i64 (k + 2 * (i : Int)))] else if j < i then pageMk k j else pagesF l j) = if j < i + 1 then pageMk k j else pagesF l j
      by_cases h1 : j = i
      · subst h1
        rw [if_pos rfl, if_pos rfl, if_neg (by omega), if_pos (by omega), w1]
        rfl
      · rw [if_neg h1, if_neg h1]
        by_cases h2 : j < i
        · rw [if_pos h2, if_pos (by omega)]
        · rw [if_neg h2, if_neg (by omega)]
    · rw [w1, wrap_i64 _ (by omega) (by omega)]; omega
    · exact wrap_i64 (i + 1) (by omega) (by omega)
  · simp at h
    have e : i = l.length := by omega
    subst e
    refine chk_intro (by kernel_rfl) ⟨tellV_v rfl rfl, tellHp_row rfl rfl rfl (fun j hj => ?_) tellHp_nil⟩
    show (if j < l.length then pageMk k j else pagesF l j) = pageMk k j
    rw [if_pos hj]
end Go.Proofs.Ytfcekiehcchebaa.L

/- What the law functions compute over results that bear pages: contracts. -/
set_option linter.unusedVariables false
set_option linter.unusedSimpArgs false
set_option maxRecDepth 100000
namespace Go.Proofs.Ytfcekiehcchebaa.L
open Go.RowKit
abbrev pagesM (l : List PageM) (k : Int) : D := .l l.length (pageMk k)
abbrev rowPM (l : List PageM) (k : Int) : Ent := .row 129 2 l.length (pageMk k)
theorem c_laws_heldPageS (l : List PageM) (k : Int) (hl : l.length ≤ 1099511627776) (hk : 0 ≤ k) (hk2 : k ≤ 1099511627776) : FnOK Try.prog 102 [.d (pagesM l k), di k] (ri (k + 2 * l.length)) := by
  refine fn_of lv102 Try.func102 rfl rfl (by kernel_rfl) rfl ?_
  refine ⟨{ i : Nat // i ≤ l.length }, fun i => ⟨frL [(0, .d (pagesM l k)), (1, di (k + 2 * (i.1 : Int))), (5, di i.1)], hpL [], 0, 0⟩, fun i => l.length - i.1, ⟨0, by omega⟩,
    le_of [] rfl rfl rfl rfl trivial (tellFr_d rfl (DLe.refl _) (tellFr_v rfl (congrArg (Value.int .i64) (show k = k + 2 * ((0 : Nat) : Int) by omega)) (tellFr_v rfl rfl trivial))), ?_⟩
  rintro ⟨i, hi⟩
  refine bsplit_intro (fun h => ?_) (fun h => ?_)
  · have h : i < l.length := by simp at h; exact h
    have w1 : IntKind.i64.wrap (k + 2 * (i : Int) + 1) = k + 2 * (i : Int) + 1 := wrap_i64 _ (by omega) (by omega)
    have w2 : IntKind.i64.wrap (k + 2 * (i : Int) + 1 + 1) = k + 2 * ((i + 1 : Nat) : Int) := by rw [wrap_i64 _ (by omega) (by omega)]; omega
    refine ask_intro ⟨by omega, by simp; omega, rfl⟩ ?_
    refine bsplit_of_false (show (k + 2 * (i : Int) != k + 2 * (i : Int)) = false by simp) ?_
    refine ask_intro ⟨by omega, by simp; omega, rfl⟩ ?_
    refine bsplit_of_false (show (k + 2 * (i : Int) + 1 != IntKind.i64.wrap (k + 2 * (i : Int) + 1)) = false by rw [w1]; simp) ?_
    exact ⟨⟨i + 1, by omega⟩, le_of [] rfl rfl rfl rfl trivial (tellFr_d rfl (DLe.refl _) (tellFr_v rfl (congrArg (Value.int .i64) (by rw [w1, w2])) (tellFr_v rfl (congrArg (Value.int .i64) (wrap_i64 (i + 1) (by omega) (by omega) : IntKind.i64.wrap ((i : Int) + 1) = ((i + 1 : Nat) : Int))) trivial))), by show l.length - (i + 1) < l.length - i; omega⟩
  · simp at h
    have e : i = l.length := by omega
    subst e
    exact ⟨⟨rfl, trivial⟩, rfl⟩
theorem c_laws_eqPagesResult (p q : Int × List PageM) (hs : p.2.length ≤ 9223372036854775807) : FnOK Try.prog 48 [pgsLV p, pgsLV q] (rb (decide (p = q))) := by
  refine fn_of lv48 Try.func48 rfl rfl (by kernel_rfl) rfl ?_
  repeat' (first | refine bsplit_true ?_ | refine bsplit_false ?_ | refine .inl ⟨_, _, rfl, c_laws_eqPageS p.2 q.2 hs, rfl, ?_⟩ | refine bsplit_intro (fun h => ?_) (fun h => ?_))
  all_goals refine ⟨⟨congrArg Value.bool ?_, trivial⟩, rfl⟩
  all_goals (obtain ⟨a1, a2⟩ := p; obtain ⟨b1, b2⟩ := q; simp_all)
theorem c_laws_markPagesResult (p : Int × List PageM) (k : Int) (hf : p.2.length ≤ 1099511627776) (hk : 0 ≤ k) (hk2 : k ≤ 1099511627776) : MutOK Try.prog 53 [.agg [di p.1, .row 0], di k] 1 [(0, rowP p.2)] (di (k + 2 * p.2.length)) 1 [(0, rowPM p.2 k)] := by
  refine mut_fn_of lv53 Try.func53 rfl rfl (by kernel_rfl) rfl [] ?_
  refine .inr ⟨rfl, use_mut ⟨_, _, _, _, _, _, rfl, rfl, c_laws_markPageS p.2 k hf hk hk2, rfl, ?_⟩⟩
  exact chk_intro (by kernel_rfl) ⟨tellV_v rfl rfl, tellHp_row rfl rfl rfl (fun j hj => rfl) tellHp_nil⟩
theorem c_laws_heldPagesResult (p : Int × List PageM) (k : Int) (hf : p.2.length ≤ 1099511627776) (hk : 0 ≤ k) (hk2 : k ≤ 1099511627776) : FnOK Try.prog 54 [.agg [di p.1, .d (pagesM p.2 k)], di k] (ri (k + 2 * p.2.length)) := by
  refine fn_of lv54 Try.func54 rfl rfl (by kernel_rfl) rfl ?_
  refine .inl ⟨_, _, rfl, c_laws_heldPageS p.2 k hf hk hk2, rfl, ?_⟩
  refine bsplit_of_false (decide_eq_false (show ¬ k + 2 * (p.2.length : Int) < 0 by omega)) ?_
  exact ⟨⟨rfl, trivial⟩, rfl⟩
end Go.Proofs.Ytfcekiehcchebaa.L

/- The law function over a machine that goes back from a trap answers true. -/
set_option linter.unusedVariables false
set_option linter.unusedSimpArgs false
set_option maxRecDepth 100000
namespace Go.Proofs.Ytfcekiehcchebaa.L
open Go.RowKit
theorem backHart_few (m : HartM) (hf : m.few) (hs : m.small) : (backHart m).2.few ∧ (backHart m).2.small := by
  unfold backHart
  split
  · exact ⟨⟨hf.regs, by simpa [backM] using hf.csr, hf.inp, hf.out⟩, ⟨hs.regs, by simpa [backM] using hs.csr, hs.inp, hs.out⟩⟩
  · exact hartZ_few
end Go.Proofs.Ytfcekiehcchebaa.L

/- The law functions over a machine that is fed answer true. -/
set_option linter.unusedVariables false
set_option linter.unusedSimpArgs false
set_option maxRecDepth 100000
namespace Go.Proofs.Ytfcekiehcchebaa.L
open Go.RowKit
theorem hK_b (m : HartM) (k : Int) (hf : m.few) (h1 : 0 ≤ k) (h2 : k ≤ 1048576) : 0 ≤ hK4 m k ∧ hK4 m k ≤ k + 4194304 := by
  obtain ⟨b1, b2, b3, b4⟩ := hf
  unfold hK4 hK3 hK2 hK1
  omega
theorem ints_b (l : List Int) (k : Int) (hf : l.length ≤ 1048576) (h1 : 0 ≤ k) (h2 : k ≤ 1099511627776) : 0 ≤ k + l.length ∧ k + l.length ≤ k + 1048576 := by omega
theorem feedHart_few (m : HartM) (hf : m.few) (hs : m.small) (l : List Int) (hl : l.length ≤ 1048576) : (feedHart m l).2.few ∧ (feedHart m l).2.small := by
  unfold feedHart
  split
  · cases h1 : (!l.all isW)
    · cases h2 : decide ((m.inp.length : Int) + l.length > 40)
      · have h2 : ¬ ((m.inp.length : Int) + l.length > 40) := by simpa using h2
        have e : (m.inp ++ l).length = m.inp.length + l.length := by simp
        exact ⟨⟨hf.regs, hf.csr, by show (m.inp ++ l).length ≤ _; omega, hf.out⟩, ⟨hs.regs, hs.csr, by show (m.inp ++ l).length * 8 ≤ _; omega, hs.out⟩⟩
      · exact hartZ_few
    · exact hartZ_few
  · exact hartZ_few
end Go.Proofs.Ytfcekiehcchebaa.L

/- The law functions over a guest's own view answer true. -/
set_option linter.unusedVariables false
set_option linter.unusedSimpArgs false
set_option maxRecDepth 100000
namespace Go.Proofs.Ytfcekiehcchebaa.L
open Go.RowKit
abbrev okPages (l : List PageM) : Prop := l.length * 16 ≤ reachBytes ∧ ∀ x ∈ l, ok64 x.to ∧ ok64 x.kinds
theorem szq_of {q : Int} {n : Nat} (h : decide ((if q - (n : Int) < 0 then -1 else q - (n : Int)) < 0) = false) : (n : Int) ≤ q := by
  have := of_decide_eq_false h
  split at this <;> omega
theorem len2_b {α : Type} (l : List α) (k : Int) (hf : l.length ≤ 1048576) (h1 : 0 ≤ k) (h2 : k ≤ 1073741824) : 0 ≤ k + 2 * (l.length : Int) ∧ k + 2 * (l.length : Int) ≤ k + 2097152 := by omega
set_option maxHeartbeats 1600000 in
theorem c_laws_FnExactSpaceOf (x0 : HartM) (x1 : List PageM) (x2 : List Int) (ho_x0 : x0.ok) (ho_x1 : okPages x1) (ho_x2 : okInts x2) : FnOK Try.prog 8 [hartLV x0, .d (Go.Proofs.Ytfcekiehcchebaa.L.pages x1), .d (ints x2)] (rb true) := by
  have hs_x0 := ho_x0.small
  have hl16_x1 : x1.length * 16 ≤ 140737488355328 := by have := ho_x1.1; rw [reach_eq] at this; omega
  have hl8_x2 : x2.length * 8 ≤ 140737488355328 := by have := ho_x2.1; rw [reach_eq] at this; omega
  refine fn_of lv8 Try.func8 rfl rfl (by kernel_rfl) rfl ?_
  refine bsplit_intro (fun h => ?_) (fun h => ?_)
  · exact ⟨⟨rfl, trivial⟩, rfl⟩
  have hf_x2 : x2.length ≤ 1048576 := by simp at h; omega
  refine .inl ⟨_, _, rfl, c_laws_szHart x0 hs_x0 _ (by decide) (by decide), rfl, ?_⟩
  refine bsplit_intro (fun h => ?_) (fun h => ?_)
  · exact ⟨⟨rfl, trivial⟩, rfl⟩
  have hf_x0 := few_of_sz h
  have hq_x0 := hSz_le x0 (of_decide_eq_false h)
  refine .inl ⟨_, _, rfl, c_laws_szPageS x1 (hSz x0 1048576) (by omega) (by omega), rfl, ?_⟩
  refine bsplit_intro (fun h => ?_) (fun h => ?_)
  · exact ⟨⟨rfl, trivial⟩, rfl⟩
  have hf_x1 : x1.length ≤ 1048576 := by have := szq_of (q := hSz x0 1048576) h; omega
  have cs := c_spec_SpaceOf x0 hs_x0 x1 hf_x1 x2 hf_x2
  have ci := c_impl_SpaceOf x0 hs_x0 x1 hf_x1 x2 hf_x2
  have hf := spaceOf_few x0 x1 x2
  obtain ⟨p, hp⟩ : ∃ p, p = spaceOf x0 x1 x2 := ⟨_, rfl⟩
  rw [← hp] at cs ci hf
  have hkp : 0 ≤ 1 + 2 * (p.2.length : Int) := by omega
  have hk : ¬ 1 + 2 * (p.2.length : Int) < 0 := by omega
  have hb0 := hK_b x0 (1) hf_x0 (by omega) (by omega)
  have hb1 := len2_b x1 (hK4 x0 (1)) hf_x1 hb0.1 (by have := hb0.2; omega)
  have hb2 := ints_b x2 ((hK4 x0 (1)) + 2 * (x1.length : Int)) hf_x2 hb1.1 (by have := hb1.2; omega)
  refine .inl ⟨_, _, rfl, c_laws_toHart x0 hs_x0, rfl, ?_⟩
  repeat' (first | refine bsplit_true ?_ | refine bsplit_false ?_ | refine chk_intro (by kernel_rfl) ?_ | refine bsplit_of_false (by simp; done) ?_)
  refine .inl ⟨_, _, rfl, c_laws_toPageS x1 hl16_x1, rfl, ?_⟩
  repeat' (first | refine bsplit_true ?_ | refine bsplit_false ?_ | refine chk_intro (by kernel_rfl) ?_ | refine bsplit_of_false (by simp; done) ?_)
  refine .inl ⟨_, _, rfl, c_laws_toInt64S x2 hl8_x2, rfl, ?_⟩
  repeat' (first | refine bsplit_true ?_ | refine bsplit_false ?_ | refine chk_intro (by kernel_rfl) ?_ | refine bsplit_of_false (by simp; done) ?_)
  refine .inl ⟨_, _, rfl, cs, rfl, ?_⟩
  repeat' (first | refine bsplit_true ?_ | refine bsplit_false ?_ | refine chk_intro (by kernel_rfl) ?_ | refine bsplit_of_false (by simp; done) ?_)
  refine .inl ⟨_, _, rfl, c_laws_toHart x0 hs_x0, rfl, ?_⟩
  repeat' (first | refine bsplit_true ?_ | refine bsplit_false ?_ | refine chk_intro (by kernel_rfl) ?_ | refine bsplit_of_false (by simp; done) ?_)
  refine .inl ⟨_, _, rfl, c_laws_toPageS x1 hl16_x1, rfl, ?_⟩
  repeat' (first | refine bsplit_true ?_ | refine bsplit_false ?_ | refine chk_intro (by kernel_rfl) ?_ | refine bsplit_of_false (by simp; done) ?_)
  refine .inl ⟨_, _, rfl, c_laws_toInt64S x2 hl8_x2, rfl, ?_⟩
  repeat' (first | refine bsplit_true ?_ | refine bsplit_false ?_ | refine chk_intro (by kernel_rfl) ?_ | refine bsplit_of_false (by simp; done) ?_)
  refine .inl ⟨_, _, rfl, ci, rfl, ?_⟩
  repeat' (first | refine bsplit_true ?_ | refine bsplit_false ?_ | refine chk_intro (by kernel_rfl) ?_ | refine bsplit_of_false (by simp; done) ?_)
  refine .inl ⟨_, _, rfl, c_laws_eqPagesResult p p (by omega), rfl, ?_⟩
  repeat' (first | refine bsplit_true ?_ | refine bsplit_false ?_ | refine chk_intro (by kernel_rfl) ?_ | refine bsplit_of_false (by simp; done) ?_)
  refine .inl ⟨_, _, rfl, c_laws_toHart x0 hs_x0, rfl, ?_⟩
  repeat' (first | refine bsplit_true ?_ | refine bsplit_false ?_ | refine chk_intro (by kernel_rfl) ?_ | refine bsplit_of_false (by simp; done) ?_)
  refine .inl ⟨_, _, rfl, c_laws_eqHart x0 x0 hs_x0, rfl, ?_⟩
  repeat' (first | refine bsplit_true ?_ | refine bsplit_false ?_ | refine chk_intro (by kernel_rfl) ?_ | refine bsplit_of_false (by simp; done) ?_)
  refine .inl ⟨_, _, rfl, c_laws_toPageS x1 hl16_x1, rfl, ?_⟩
  repeat' (first | refine bsplit_true ?_ | refine bsplit_false ?_ | refine chk_intro (by kernel_rfl) ?_ | refine bsplit_of_false (by simp; done) ?_)
  refine .inl ⟨_, _, rfl, c_laws_eqPageS x1 x1 (by omega), rfl, ?_⟩
  repeat' (first | refine bsplit_true ?_ | refine bsplit_false ?_ | refine chk_intro (by kernel_rfl) ?_ | refine bsplit_of_false (by simp; done) ?_)
  refine .inl ⟨_, _, rfl, c_laws_toInt64S x2 hl8_x2, rfl, ?_⟩
  repeat' (first | refine bsplit_true ?_ | refine bsplit_false ?_ | refine chk_intro (by kernel_rfl) ?_ | refine bsplit_of_false (by simp; done) ?_)
  refine .inl ⟨_, _, rfl, c_laws_eqInt64S x2 x2 (by omega), rfl, ?_⟩
  repeat' (first | refine bsplit_true ?_ | refine bsplit_false ?_ | refine chk_intro (by kernel_rfl) ?_ | refine bsplit_of_false (by simp; done) ?_)
  refine .inr ⟨rfl, use_mut ⟨_, _, _, _, _, _, rfl, rfl, c_laws_markHart x0 (1) hf_x0 (by omega) (by omega), rfl, ?_⟩⟩
  repeat' (first | refine bsplit_true ?_ | refine bsplit_false ?_ | refine chk_intro (by kernel_rfl) ?_)
  refine .inr ⟨rfl, use_mut ⟨_, _, _, _, _, _, rfl, rfl, c_laws_markPageS x1 (hK4 x0 (1)) (by omega) hb0.1 (by have := hb0.2; omega), rfl, ?_⟩⟩
  repeat' (first | refine bsplit_true ?_ | refine bsplit_false ?_ | refine chk_intro (by kernel_rfl) ?_)
  refine .inr ⟨rfl, use_mut ⟨_, _, _, _, _, _, rfl, rfl, c_laws_markInt64S x2 ((hK4 x0 (1)) + 2 * (x1.length : Int)) (by omega) hb1.1 (by have := hb1.2; omega), rfl, ?_⟩⟩
  repeat' (first | refine bsplit_true ?_ | refine bsplit_false ?_ | refine chk_intro (by kernel_rfl) ?_)
  try refine bsplit_of_false (decide_eq_false (show ¬ (((hK4 x0 (1)) + 2 * (x1.length : Int)) + (x2.length : Int)) < 0 by have := hb2.1; omega)) ?_
  repeat' (first | refine bsplit_true ?_ | refine bsplit_false ?_ | refine chk_intro (by kernel_rfl) ?_ | refine bsplit_of_false (by simp; done) ?_)
  refine .inl ⟨_, _, rfl, c_laws_eqPagesResult p p (by omega), rfl, ?_⟩
  repeat' (first | refine bsplit_true ?_ | refine bsplit_false ?_ | refine chk_intro (by kernel_rfl) ?_ | refine bsplit_of_false (by simp; done) ?_)
  refine .inr ⟨rfl, use_mut ⟨_, _, _, _, _, _, rfl, rfl, c_laws_markPagesResult p 1 (by omega) (by omega) (by omega), rfl, ?_⟩⟩
  repeat' (first | refine bsplit_true ?_ | refine bsplit_false ?_ | refine chk_intro (by kernel_rfl) ?_)
  refine .inl ⟨_, _, rfl, c_laws_heldPagesResult p 1 (by omega) (by omega) (by omega), rfl, ?_⟩
  repeat' (first | refine bsplit_true ?_ | refine bsplit_false ?_ | refine chk_intro (by kernel_rfl) ?_)
  try refine bsplit_of_false (decide_eq_false hk) ?_
  repeat' (first | refine bsplit_true ?_ | refine bsplit_false ?_ | refine chk_intro (by kernel_rfl) ?_ | refine bsplit_of_false (by simp; done) ?_)
  refine .inl ⟨_, _, rfl, c_laws_toHart x0 hs_x0, rfl, ?_⟩
  repeat' (first | refine bsplit_true ?_ | refine bsplit_false ?_ | refine chk_intro (by kernel_rfl) ?_ | refine bsplit_of_false (by simp; done) ?_)
  refine .inl ⟨_, _, rfl, c_laws_toPageS x1 hl16_x1, rfl, ?_⟩
  repeat' (first | refine bsplit_true ?_ | refine bsplit_false ?_ | refine chk_intro (by kernel_rfl) ?_ | refine bsplit_of_false (by simp; done) ?_)
  refine .inl ⟨_, _, rfl, c_laws_toInt64S x2 hl8_x2, rfl, ?_⟩
  repeat' (first | refine bsplit_true ?_ | refine bsplit_false ?_ | refine chk_intro (by kernel_rfl) ?_ | refine bsplit_of_false (by simp; done) ?_)
  refine .inl ⟨_, _, rfl, ci, rfl, ?_⟩
  repeat' (first | refine bsplit_true ?_ | refine bsplit_false ?_ | refine chk_intro (by kernel_rfl) ?_ | refine bsplit_of_false (by simp; done) ?_)
  refine .inl ⟨_, _, rfl, c_laws_eqPagesResult p p (by omega), rfl, ?_⟩
  repeat' (first | refine bsplit_true ?_ | refine bsplit_false ?_ | refine chk_intro (by kernel_rfl) ?_ | refine bsplit_of_false (by simp; done) ?_)
  refine .inl ⟨_, _, rfl, c_laws_heldPagesResult p 1 (by omega) (by omega) (by omega), rfl, ?_⟩
  repeat' (first | refine bsplit_true ?_ | refine bsplit_false ?_ | refine chk_intro (by kernel_rfl) ?_)
  try refine bsplit_of_false (decide_eq_false hk) ?_
  repeat' (first | refine bsplit_true ?_ | refine bsplit_false ?_ | refine chk_intro (by kernel_rfl) ?_ | refine bsplit_of_false (by simp; done) ?_)
  exact ⟨⟨rfl, trivial⟩, rfl⟩
end Go.Proofs.Ytfcekiehcchebaa.L

/- What the functions compute that tell where a place of a guest leads: contracts. -/
set_option linter.unusedVariables false
set_option linter.unusedSimpArgs false
set_option maxRecDepth 100000
namespace Go.Proofs.Ytfcekiehcchebaa.L
open Go.RowKit
theorem walkP_b {l : List PageM} {top : Int} (h : PgsOK l top) (ht : top ≤ 24) (at_ kind : Int) : walkP l at_ kind = -1 ∨ (0 ≤ walkP l at_ kind ∧ walkP l at_ kind < top * 8 ∧ ∃ p ∈ l, walkP l at_ kind < (p.to + 1) * 8) := by
  unfold walkP
  cases hin : inR at_ 0 63 with
  | false => exact .inl rfl
  | true =>
    cases hb : decide ((pageAt l at_).to < 0) || (andI (pageAt l at_).kinds kind == 0) with
    | true => exact .inl rfl
    | false =>
      have h0 := of_decide_eq_false (Bool.or_eq_false_iff.1 hb).1
      obtain ⟨w1, w2, w3⟩ := walk_get h ht hin h0
      have hd := div8 (inR_iff.1 hin).1 (inR_iff.1 hin).2
      have hm : Int.tmod at_ 8 < 8 := by rw [Int.tmod_eq_emod_of_nonneg (inR_iff.1 hin).1]; omega
      refine .inr ?_
      simp only [Bool.not_true, cond_false]
      rw [w1]
      refine ⟨w2, w3, pageAt l at_, ?_, by omega⟩
      unfold pageAt
      rw [hd.1, getD_at _ (by rw [h.len]; omega)]
      exact List.getElem_mem _
theorem idPages_ok : PgsOK idPages 8 := ⟨rfl, fun p hp => by
  simp only [idPages, List.mem_map, List.mem_range] at hp
  obtain ⟨i, hi, rfl⟩ := hp
  simp only
  omega⟩
theorem entryP_ok {w : Int} (h : 0 ≤ w) (h9 : w ≤ 4294967295) : -1 ≤ (entryP w).to ∧ (entryP w).to < 8 ∧ 0 ≤ (entryP w).kinds ∧ (entryP w).kinds ≤ 7 := by
  have h1 : 0 ≤ Int.tmod w 8 ∧ Int.tmod w 8 < 8 := by rw [Int.tmod_eq_emod_of_nonneg h]; omega
  have h2 : 0 ≤ Int.tdiv w 8 := Int.tdiv_nonneg h (by omega)
  have h2' : Int.tdiv w 8 ≤ w := Int.tdiv_le_self 8 h
  unfold entryP
  cases hb : (Int.tmod w 8 == 0) || decide (IntKind.i64.wrap (Int.tdiv w 8) ≥ 8) with
  | true => exact ⟨by simp, by simp, by simp, by simp⟩
  | false =>
    have h3 := of_decide_eq_false (Bool.or_eq_false_iff.1 hb).2
    simp only [cond_false]
    refine ⟨?_, by omega, by omega, by omega⟩
    rw [wrap_i64 _ (by omega) (by omega)]
    omega
theorem spaceM_ok {m : HartM} {l : List PageM} {mem : List Int} (ok : StepOK m l mem) (h : (spaceM m l mem).1 = 0) : PgsOK (spaceM m l mem).2 8 := by
  have ht := ok.table
  unfold spaceM at h ⊢
  split
  · exact idPages_ok
  · rename_i h0
    rw [if_neg h0] at h
    have hp := ok.page (i := (m.csr.getD 10 0 - 1).toNat) (by omega)
    generalize l.getD (m.csr.getD 10 0 - 1).toNat ⟨0, 0⟩ = P at *
    cases hb : (decide (P.to < 0) || (andI P.kinds 1 == 0)) || (m.csr.getD 10 0 == 8) with
    | true => rw [hb] at h; simp at h
    | false =>
      have hP : ¬ P.to < 0 := of_decide_eq_false (Bool.or_eq_false_iff.1 (Bool.or_eq_false_iff.1 hb).1).1
      simp only [cond_false]
      refine ⟨by rw [List.length_map]; exact pageW_len mem P.to (by omega) (by omega), fun p hp => ?_⟩
      obtain ⟨w, hw, rfl⟩ := List.mem_map.1 hp
      have hw2 := isW_iff.1 (ok.ram.word w (List.mem_of_mem_drop (List.mem_of_mem_take hw)))
      exact entryP_ok hw2.1 hw2.2
def placeM (m : HartM) (l : List PageM) (mem : List Int) (at_ kind : Int) : Int × Int :=
  if (spaceM m l mem).1 = 0 then
    (if walkP (spaceM m l mem).2 at_ kind < 0 then (kindC kind, 0) else
     if Int.tdiv (walkP (spaceM m l mem).2 at_ kind) 8 = 7 then (if kind = 4 then (9, 0) else (0, 1000 + Int.tmod (walkP (spaceM m l mem).2 at_ kind) 8)) else
     if walkP l (walkP (spaceM m l mem).2 at_ kind) kind < 0 then (kindC kind, 0) else (0, walkP l (walkP (spaceM m l mem).2 at_ kind) kind))
  else ((spaceM m l mem).1, 0)
theorem kindC_ne {k : Int} (h : kindOk k = true) : kindC k ≠ 0 := by
  have := kindC_ok k
  rw [h] at this
  intro h0
  rw [h0] at this
  simp at this
theorem kindOk_or {k : Int} (h : kindOk k = true) : k = 1 ∨ k = 2 ∨ k = 4 := by
  simpa [kindOk] using h
theorem c_impl_Hart_place (m : HartM) (l : List PageM) (mem : List Int) (ok : StepOK m l mem) (at_ kind : Int) (hk : kindOk kind = true) : FnOK Try.prog 106 [.dptr (hartD m), .d (pages l), .d (ints mem), di at_, di kind] (.r (irR (placeM m l mem at_ kind))) := by
  have cs := c_impl_Hart_space m l mem ok
  have hso := fun h => spaceM_ok ok h
  have hkn := kindC_ne hk
  generalize hv : placeM m l mem at_ kind = v
  unfold placeM at hv
  generalize spaceM m l mem = q at *
  by_cases h0 : q.1 = 0
  rotate_left
  · rw [if_neg h0] at hv
    subst hv
    refine fn_of lv106 Try.func106 rfl rfl (by kernel_rfl) rfl ?_
    refine .inl ⟨_, _, rfl, cs, rfl, ?_⟩
    refine bsplit_of_true (bne_iff_ne.2 h0) ?_
    exact ⟨⟨rfl, rfl, trivial⟩, rfl⟩
  rw [if_pos h0] at hv
  have hs8 := hso h0
  have cw := c_impl_walk q.2 8 hs8 (by omega) at_ kind
  have hb := walkP_b hs8 (by omega) at_ kind
  unfold walkI at cw
  generalize walkP q.2 at_ kind = g at *
  by_cases hg : g < 0
  · rw [if_pos hg] at hv cw
    subst hv
    refine fn_of lv106 Try.func106 rfl rfl (by kernel_rfl) rfl ?_
    refine .inl ⟨_, _, rfl, cs, rfl, ?_⟩
    refine bsplit_of_false (by rw [h0]; rfl) ?_
    refine .inl ⟨_, _, rfl, cw, rfl, ?_⟩
    refine bsplit_of_true (bne_iff_ne.2 hkn) ?_
    exact ⟨⟨rfl, rfl, trivial⟩, rfl⟩
  rw [if_neg hg] at hv cw
  have hgd : Int.tdiv g 8 = g / 8 := Int.tdiv_eq_ediv_of_nonneg (by omega)
  have hgm : Int.tmod g 8 = g % 8 := Int.tmod_eq_emod_of_nonneg (by omega)
  have hgw : IntKind.i64.wrap (Int.tdiv g 8) = Int.tdiv g 8 := by rw [hgd]; exact wrap_i64 _ (by omega) (by omega)
  have hgw2 : IntKind.i64.wrap (1000 + Int.tmod g 8) = 1000 + Int.tmod g 8 := by rw [hgm]; exact wrap_i64 _ (by omega) (by omega)
  by_cases h7 : Int.tdiv g 8 = 7
  · rw [if_pos h7] at hv
    by_cases h4 : kind = 4
    · rw [if_pos h4] at hv
      subst hv
      refine fn_of lv106 Try.func106 rfl rfl (by kernel_rfl) rfl ?_
      refine .inl ⟨_, _, rfl, cs, rfl, ?_⟩
      refine bsplit_of_false (by rw [h0]; rfl) ?_
      refine .inl ⟨_, _, rfl, cw, rfl, ?_⟩
      repeat' (first | refine bsplit_true ?_ | refine bsplit_false ?_)
      refine ask_intro (by decide) ?_
      refine bsplit_of_false (show (IntKind.i64.wrap (Int.tdiv g 8) != 7) = false by rw [hgw, h7]; rfl) ?_
      refine bsplit_of_true (beq_iff_eq.2 h4) ?_
      exact ⟨⟨rfl, rfl, trivial⟩, rfl⟩
    · rw [if_neg h4] at hv
      subst hv
      refine fn_of lv106 Try.func106 rfl rfl (by kernel_rfl) rfl ?_
      refine .inl ⟨_, _, rfl, cs, rfl, ?_⟩
      refine bsplit_of_false (by rw [h0]; rfl) ?_
      refine .inl ⟨_, _, rfl, cw, rfl, ?_⟩
      repeat' (first | refine bsplit_true ?_ | refine bsplit_false ?_)
      refine ask_intro (by decide) ?_
      refine bsplit_of_false (show (IntKind.i64.wrap (Int.tdiv g 8) != 7) = false by rw [hgw, h7]; rfl) ?_
      refine bsplit_of_false (beq_eq_false_iff_ne.2 h4) ?_
      refine ask_intro (by decide) ?_
      exact ⟨⟨rfl, congrArg (Value.int .i64) hgw2, trivial⟩, rfl⟩
  rw [if_neg h7] at hv
  have cw2 := c_impl_walk l 24 ok.pgs (by omega) g kind
  unfold walkI at cw2
  rw [hv] at cw2
  refine fn_of lv106 Try.func106 rfl rfl (by kernel_rfl) rfl ?_
  refine .inl ⟨_, _, rfl, cs, rfl, ?_⟩
  refine bsplit_of_false (by rw [h0]; rfl) ?_
  refine .inl ⟨_, _, rfl, cw, rfl, ?_⟩
  repeat' (first | refine bsplit_true ?_ | refine bsplit_false ?_)
  refine ask_intro (by decide) ?_
  refine bsplit_of_true (show (IntKind.i64.wrap (Int.tdiv g 8) != 7) = true by rw [hgw]; exact bne_iff_ne.2 h7) ?_
  refine .inl ⟨_, _, rfl, cw2, rfl, ?_⟩
  exact ⟨⟨rfl, rfl, trivial⟩, rfl⟩
theorem c_spec_l10Place (m : HartM) (l : List PageM) (mem : List Int) (ok : StepOK m l mem) (at_ kind : Int) (hk : kindOk kind = true) : FnOK Try.prog 104 [.dptr (busD m l mem), di at_, di kind] (.tup [.one (.v (.int .i64 (placeM m l mem at_ kind).2)), .one (.v (.int .i64 (placeM m l mem at_ kind).1))]) := by
  have cs := c_spec_l10Space m l mem ok
  have hs1 := spaceM_1 m l mem
  have hso := fun h => spaceM_ok ok h
  have hkn := kindOk_or hk
  generalize hv : placeM m l mem at_ kind = v
  unfold placeM at hv
  generalize spaceM m l mem = q at *
  by_cases h0 : q.1 = 0
  rotate_left
  · rw [if_neg h0] at hv
    have hq : q = (7, []) := by
      rcases hs1 with h | h
      · rw [h] at h0; simp at h0
      · exact h
    subst hq
    subst hv
    refine fn_of lv104 Try.func104 rfl rfl (by kernel_rfl) rfl ?_
    refine .inl ⟨_, _, rfl, cs, rfl, ?_⟩
    repeat' (first | refine bsplit_true ?_ | refine bsplit_false ?_)
    exact ⟨⟨rfl, rfl, trivial⟩, rfl⟩
  rw [if_pos h0] at hv
  have hs8 := hso h0
  have hb0 : (!(q.1 == 0)) = false := by rw [h0]; rfl
  have cw := c_spec_l4Walk q.2 hs8.len at_ kind
  have hb := walkP_b hs8 (by omega) at_ kind
  have cc := c_spec_l4Code kind hkn
  generalize walkP q.2 at_ kind = g at *
  by_cases hg : g < 0
  · rw [if_pos hg] at hv
    subst hv
    refine fn_of lv104 Try.func104 rfl rfl (by kernel_rfl) rfl ?_
    refine .inl ⟨_, _, rfl, cs, rfl, ?_⟩
    refine bsplit_of_false hb0 ?_
    refine .inl ⟨_, _, rfl, cw, rfl, ?_⟩
    refine bsplit_of_true (decide_eq_true hg) ?_
    refine .inl ⟨_, _, rfl, cc, rfl, ?_⟩
    exact ⟨⟨rfl, rfl, trivial⟩, rfl⟩
  rw [if_neg hg] at hv
  have hgd : Int.tdiv g 8 = g / 8 := Int.tdiv_eq_ediv_of_nonneg (by omega)
  have hgm : Int.tmod g 8 = g % 8 := Int.tmod_eq_emod_of_nonneg (by omega)
  have hgw : IntKind.i64.wrap (Int.tdiv g 8) = Int.tdiv g 8 := by rw [hgd]; exact wrap_i64 _ (by omega) (by omega)
  have hgw2 : IntKind.i64.wrap (1000 + Int.tmod g 8) = 1000 + Int.tmod g 8 := by rw [hgm]; exact wrap_i64 _ (by omega) (by omega)
  by_cases h7 : Int.tdiv g 8 = 7
  · rw [if_pos h7] at hv
    by_cases h4 : kind = 4
    · rw [if_pos h4] at hv
      subst hv
      refine fn_of lv104 Try.func104 rfl rfl (by kernel_rfl) rfl ?_
      refine .inl ⟨_, _, rfl, cs, rfl, ?_⟩
      refine bsplit_of_false hb0 ?_
      refine .inl ⟨_, _, rfl, cw, rfl, ?_⟩
      refine bsplit_of_false (decide_eq_false hg) ?_
      refine ask_intro (by decide) ?_
      refine bsplit_of_true (show (IntKind.i64.wrap (Int.tdiv g 8) == 7) = true by rw [hgw, h7]; rfl) ?_
      refine bsplit_of_true (beq_iff_eq.2 h4) ?_
      exact ⟨⟨rfl, rfl, trivial⟩, rfl⟩
    · rw [if_neg h4] at hv
      subst hv
      refine fn_of lv104 Try.func104 rfl rfl (by kernel_rfl) rfl ?_
      refine .inl ⟨_, _, rfl, cs, rfl, ?_⟩
      refine bsplit_of_false hb0 ?_
      refine .inl ⟨_, _, rfl, cw, rfl, ?_⟩
      refine bsplit_of_false (decide_eq_false hg) ?_
      refine ask_intro (by decide) ?_
      refine bsplit_of_true (show (IntKind.i64.wrap (Int.tdiv g 8) == 7) = true by rw [hgw, h7]; rfl) ?_
      refine bsplit_of_false (beq_eq_false_iff_ne.2 h4) ?_
      refine ask_intro (by decide) ?_
      exact ⟨⟨congrArg (Value.int .i64) hgw2, rfl, trivial⟩, rfl⟩
  rw [if_neg h7] at hv
  have cw2 := c_spec_l4Walk l ok.pgs.len g kind
  generalize walkP l g kind = r at *
  by_cases hr : r < 0
  · rw [if_pos hr] at hv
    subst hv
    refine fn_of lv104 Try.func104 rfl rfl (by kernel_rfl) rfl ?_
    refine .inl ⟨_, _, rfl, cs, rfl, ?_⟩
    refine bsplit_of_false hb0 ?_
    refine .inl ⟨_, _, rfl, cw, rfl, ?_⟩
    refine bsplit_of_false (decide_eq_false hg) ?_
    refine ask_intro (by decide) ?_
    refine bsplit_of_false (show (IntKind.i64.wrap (Int.tdiv g 8) == 7) = false by rw [hgw]; exact beq_eq_false_iff_ne.2 h7) ?_
    refine .inl ⟨_, _, rfl, cw2, rfl, ?_⟩
    refine bsplit_of_true (decide_eq_true hr) ?_
    refine .inl ⟨_, _, rfl, cc, rfl, ?_⟩
    exact ⟨⟨rfl, rfl, trivial⟩, rfl⟩
  · rw [if_neg hr] at hv
    subst hv
    refine fn_of lv104 Try.func104 rfl rfl (by kernel_rfl) rfl ?_
    refine .inl ⟨_, _, rfl, cs, rfl, ?_⟩
    refine bsplit_of_false hb0 ?_
    refine .inl ⟨_, _, rfl, cw, rfl, ?_⟩
    refine bsplit_of_false (decide_eq_false hg) ?_
    refine ask_intro (by decide) ?_
    refine bsplit_of_false (show (IntKind.i64.wrap (Int.tdiv g 8) == 7) = false by rw [hgw]; exact beq_eq_false_iff_ne.2 h7) ?_
    refine .inl ⟨_, _, rfl, cw2, rfl, ?_⟩
    refine bsplit_of_false (decide_eq_false hr) ?_
    exact ⟨⟨rfl, rfl, trivial⟩, rfl⟩
def placeOf (m : HartM) (l : List PageM) (mem : List Int) (at_ kind : Int) : Int × Int := if stepF m l mem = 0 then (bif !kindOk kind then (3, 0) else placeM m l mem at_ kind) else (stepF m l mem, 0)
theorem c_impl_PlaceOf (m : HartM) (hs : m.small) (l : List PageM) (hl : l.length ≤ 1048576) (mem : List Int) (hm : mem.length ≤ 1048576) (at_ kind : Int) : FnOK Try.prog 56 [hartLV m, .d (pages l), .d (ints mem), di at_, di kind] (.r (irR (placeOf m l mem at_ kind))) := by
  have ca := c_impl_stepFault m hs l hl mem hm
  have cp := fun h => c_impl_Hart_place m l mem (stepF_ok h) at_ kind
  have hkc := kindC_ok kind
  generalize hv : placeOf m l mem at_ kind = v
  unfold placeOf at hv
  by_cases h0 : stepF m l mem = 0
  rotate_left
  · rw [if_neg h0] at hv
    subst hv
    refine fn_of lv56 Try.func56 rfl rfl (by kernel_rfl) rfl ?_
    refine .inl ⟨_, _, rfl, ca, rfl, ?_⟩
    refine bsplit_of_false (beq_eq_false_iff_ne.2 h0) ?_
    repeat' (first | refine bsplit_true ?_ | refine bsplit_false ?_)
    refine bsplit_of_true (bne_iff_ne.2 h0) ?_
    exact ⟨⟨rfl, rfl, trivial⟩, rfl⟩
  rw [if_pos h0] at hv
  have cp := cp h0
  cases hk : kindOk kind with
  | false =>
    rw [hk] at hv hkc
    subst hv
    refine fn_of lv56 Try.func56 rfl rfl (by kernel_rfl) rfl ?_
    refine .inl ⟨_, _, rfl, ca, rfl, ?_⟩
    refine bsplit_of_true (beq_iff_eq.2 h0) ?_
    repeat' (first | refine bsplit_true ?_ | refine bsplit_false ?_)
    refine .inl ⟨_, _, rfl, c_impl_kindCode kind, rfl, ?_⟩
    repeat' (first | refine bsplit_true ?_ | refine bsplit_false ?_)
    refine bsplit_of_true hkc ?_
    repeat' (first | refine bsplit_true ?_ | refine bsplit_false ?_)
    exact ⟨⟨rfl, rfl, trivial⟩, rfl⟩
  | true =>
    rw [hk] at hv hkc
    subst hv
    have cp := cp hk
    refine fn_of lv56 Try.func56 rfl rfl (by kernel_rfl) rfl ?_
    refine .inl ⟨_, _, rfl, ca, rfl, ?_⟩
    refine bsplit_of_true (beq_iff_eq.2 h0) ?_
    repeat' (first | refine bsplit_true ?_ | refine bsplit_false ?_)
    refine .inl ⟨_, _, rfl, c_impl_kindCode kind, rfl, ?_⟩
    repeat' (first | refine bsplit_true ?_ | refine bsplit_false ?_)
    refine bsplit_of_false hkc ?_
    refine bsplit_of_false (by rw [h0]; rfl) ?_
    refine .inl ⟨_, _, rfl, cp, rfl, ?_⟩
    exact ⟨⟨rfl, rfl, trivial⟩, rfl⟩
theorem c_spec_PlaceOf (m : HartM) (hs : m.small) (l : List PageM) (hl : l.length ≤ 1048576) (mem : List Int) (hm : mem.length ≤ 1048576) (at_ kind : Int) : FnOK Try.prog 55 [hartLV m, .d (pages l), .d (ints mem), di at_, di kind] (.r (irR (placeOf m l mem at_ kind))) := by
  have ca := c_spec_l10Asked m hs l hl mem hm
  have cp := fun h => c_spec_l10Place m l mem (stepF_ok h) at_ kind
  have hp1 : ∀ ok : StepOK m l mem, (placeM m l mem at_ kind).1 ≠ 0 → placeM m l mem at_ kind = ((placeM m l mem at_ kind).1, 0) := fun ok => by
    unfold placeM
    (repeat' split) <;> (try intro h; first | rfl | exact absurd rfl h)
  generalize hv : placeOf m l mem at_ kind = v
  unfold placeOf at hv
  by_cases h0 : stepF m l mem = 0
  rotate_left
  · rw [if_neg h0] at hv
    subst hv
    refine fn_of lv55 Try.func55 rfl rfl (by kernel_rfl) rfl ?_
    refine .inl ⟨_, _, rfl, ca, rfl, ?_⟩
    refine bsplit_of_true (bne_iff_ne.2 h0) ?_
    exact ⟨⟨rfl, rfl, trivial⟩, rfl⟩
  rw [if_pos h0] at hv
  have cp := cp h0
  have hp1 := hp1 (stepF_ok h0)
  cases hk : kindOk kind with
  | false =>
    rw [hk] at hv
    subst hv
    refine fn_of lv55 Try.func55 rfl rfl (by kernel_rfl) rfl ?_
    refine .inl ⟨_, _, rfl, ca, rfl, ?_⟩
    refine bsplit_of_false (by rw [h0]; rfl) ?_
    refine .inl ⟨_, _, rfl, c_spec_l4Kind kind, rfl, ?_⟩
    refine bsplit_of_true (by rw [hk]; rfl) ?_
    exact ⟨⟨rfl, rfl, trivial⟩, rfl⟩
  | true =>
    rw [hk] at hv
    have cp := cp hk
    simp only [Bool.not_true, cond_false] at hv
    rw [hv] at cp hp1
    by_cases hc : v.1 = 0
    · refine fn_of lv55 Try.func55 rfl rfl (by kernel_rfl) rfl ?_
      refine .inl ⟨_, _, rfl, ca, rfl, ?_⟩
      refine bsplit_of_false (by rw [h0]; rfl) ?_
      refine .inl ⟨_, _, rfl, c_spec_l4Kind kind, rfl, ?_⟩
      refine bsplit_of_false (by rw [hk]; rfl) ?_
      refine .inl ⟨_, _, rfl, cp, rfl, ?_⟩
      refine bsplit_of_false (by rw [hc]; rfl) ?_
      exact ⟨⟨congrArg (Value.int .i64) hc.symm, rfl, trivial⟩, rfl⟩
    · have hp1 := hp1 hc
      refine fn_of lv55 Try.func55 rfl rfl (by kernel_rfl) rfl ?_
      refine .inl ⟨_, _, rfl, ca, rfl, ?_⟩
      refine bsplit_of_false (by rw [h0]; rfl) ?_
      refine .inl ⟨_, _, rfl, c_spec_l4Kind kind, rfl, ?_⟩
      refine bsplit_of_false (by rw [hk]; rfl) ?_
      refine .inl ⟨_, _, rfl, cp, rfl, ?_⟩
      refine bsplit_of_true (bne_iff_ne.2 hc) ?_
      exact ⟨⟨rfl, congrArg (Value.int .i64) (congrArg Prod.snd hp1).symm, trivial⟩, rfl⟩
end Go.Proofs.Ytfcekiehcchebaa.L

/- What the functions compute that read an instruction out of a word: contracts. -/
set_option linter.unusedVariables false
set_option linter.unusedSimpArgs false
set_option maxRecDepth 100000
namespace Go.Proofs.Ytfcekiehcchebaa.L
open Go.RowKit
structure InsM where
  op : Int
  d : Int
  a : Int
  imm : Int
  deriving DecidableEq
abbrev insLV (x : InsM) : LV := .agg [di x.op, di x.d, di x.a, di x.imm]
abbrev insV (x : InsM) : RV1 := .agg [.v (.int .i64 x.op), .v (.int .i64 x.d), .v (.int .i64 x.a), .v (.int .i64 x.imm)]
def insFault (x : InsM) : Int :=
  if ¬ ((1 ≤ x.op ∧ x.op ≤ 26) ∧ (0 ≤ x.d ∧ x.d ≤ 15) ∧ (0 ≤ x.a ∧ x.a ≤ 15) ∧ (0 ≤ x.imm ∧ x.imm ≤ 65535)) then 3 else
  if (x.op = 22 ∨ 23 ≤ x.op) ∧ x.d ≠ 0 ∨ (x.op = 13 ∨ x.op = 19 ∨ x.op = 21 ∨ 23 ≤ x.op) ∧ x.a ≠ 0 ∨ 23 ≤ x.op ∧ x.imm ≠ 0 ∨ x.op ≤ 11 ∧ x.imm > 15 ∨ (x.op = 21 ∨ x.op = 22) ∧ x.imm > 10 then 1 else 0
theorem c_impl_InsFault (x : InsM) : FnOK Try.prog 143 [insLV x] (ri (insFault x)) := by
  have w1 := c_impl_within x.op 1 26
  have w2 := c_impl_within x.d 0 15
  have w3 := c_impl_within x.a 0 15
  have w4 := c_impl_within x.imm 0 65535
  refine fn_of lv143 Try.func143 rfl rfl (by kernel_rfl) rfl ?_
  repeat' (first | refine bsplit_true ?_ | refine bsplit_false ?_ | refine .inl ⟨_, _, rfl, w1, rfl, ?_⟩ | refine .inl ⟨_, _, rfl, w2, rfl, ?_⟩ | refine .inl ⟨_, _, rfl, w3, rfl, ?_⟩ | refine .inl ⟨_, _, rfl, w4, rfl, ?_⟩ | refine bsplit_intro (fun h => ?_) (fun h => ?_))
  all_goals refine ⟨⟨congrArg (Value.int .i64) ?_, trivial⟩, rfl⟩
  all_goals (simp only [Bool.not_eq_eq_eq_not, Bool.not_true, Bool.not_false, inR, Bool.and_eq_true, Bool.and_eq_false_iff, bne_iff_ne, bne_eq_false_iff_eq, decide_eq_true_eq, decide_eq_false_iff_not, beq_iff_eq, beq_eq_false_iff_ne, ne_eq] at *)
  all_goals (unfold insFault; repeat' split)
  all_goals (first | rfl | omega)
theorem c_spec_l2Bare (o : Int) (h1 : 1 ≤ o) (h26 : o ≤ 26) : FnOK Try.prog 160 [di o] (.tup [.one (.v (.bool (decide (o = 22 ∨ 23 ≤ o)))), .one (.v (.bool (decide (o = 13 ∨ o = 19 ∨ o = 21 ∨ 23 ≤ o)))), .one (.v (.bool (decide (23 ≤ o))))]) := by
  refine fn_of lv160 Try.func160 rfl rfl (by kernel_rfl) rfl ?_
  repeat' (first | refine bsplit_true ?_ | refine bsplit_false ?_ | refine bsplit_intro (fun h => ?_) (fun h => ?_))
  all_goals (simp only [beq_iff_eq, beq_eq_false_iff_ne, ne_eq] at *)
  all_goals refine ⟨⟨congrArg Value.bool ?_, congrArg Value.bool ?_, congrArg Value.bool ?_, trivial⟩, rfl⟩
  all_goals (symm; first | exact decide_eq_true (by omega) | exact decide_eq_false (by omega))
set_option maxHeartbeats 8000000 in
theorem c_spec_InsFault (x : InsM) : FnOK Try.prog 155 [insLV x] (ri (insFault x)) := by
  have w1 := c_spec_l1In x.op 1 26
  have w2 := c_spec_l1In x.d 0 15
  have w3 := c_spec_l1In x.a 0 15
  have w4 := c_spec_l1In x.imm 0 65535
  by_cases hop : 1 ≤ x.op ∧ x.op ≤ 26
  rotate_left
  · refine fn_of lv155 Try.func155 rfl rfl (by kernel_rfl) rfl ?_
    repeat' (first | refine bsplit_true ?_ | refine bsplit_false ?_ | refine .inl ⟨_, _, rfl, w1, rfl, ?_⟩ | refine .inl ⟨_, _, rfl, w2, rfl, ?_⟩ | refine .inl ⟨_, _, rfl, w3, rfl, ?_⟩ | refine .inl ⟨_, _, rfl, w4, rfl, ?_⟩ | refine bsplit_of_true (show (!(inR x.op 1 26)) = true by simp [inR]; omega) ?_)
    all_goals refine ⟨⟨congrArg (Value.int .i64) ?_, trivial⟩, rfl⟩
    all_goals (unfold insFault; repeat' split)
    all_goals (first | rfl | omega)
  have w5 := c_spec_l2Bare x.op hop.1 hop.2
  have e1 : ∀ b, decide (x.op = 22 ∨ 23 ≤ x.op) = b → (b = true ↔ (x.op = 22 ∨ 23 ≤ x.op)) := fun b h => by rw [← h]; simp
  have e2 : ∀ b, decide (x.op = 13 ∨ x.op = 19 ∨ x.op = 21 ∨ 23 ≤ x.op) = b → (b = true ↔ (x.op = 13 ∨ x.op = 19 ∨ x.op = 21 ∨ 23 ≤ x.op)) := fun b h => by rw [← h]; simp
  have e3 : ∀ b, decide (23 ≤ x.op) = b → (b = true ↔ 23 ≤ x.op) := fun b h => by rw [← h]; simp
  generalize hb1 : decide (x.op = 22 ∨ 23 ≤ x.op) = b1 at w5
  generalize hb2 : decide (x.op = 13 ∨ x.op = 19 ∨ x.op = 21 ∨ 23 ≤ x.op) = b2 at w5
  generalize hb3 : decide (23 ≤ x.op) = b3 at w5
  replace e1 := e1 b1 hb1
  replace e2 := e2 b2 hb2
  replace e3 := e3 b3 hb3
  clear hb1 hb2 hb3
  refine fn_of lv155 Try.func155 rfl rfl (by kernel_rfl) rfl ?_
  repeat' (first | refine bsplit_true ?_ | refine bsplit_false ?_ | refine .inl ⟨_, _, rfl, w1, rfl, ?_⟩ | refine .inl ⟨_, _, rfl, w2, rfl, ?_⟩ | refine .inl ⟨_, _, rfl, w3, rfl, ?_⟩ | refine .inl ⟨_, _, rfl, w4, rfl, ?_⟩ | refine .inl ⟨_, _, rfl, w5, rfl, ?_⟩ | refine bsplit_intro (fun h => ?_) (fun h => ?_))
  all_goals refine ⟨⟨congrArg (Value.int .i64) ?_, trivial⟩, rfl⟩
  all_goals (simp only [Bool.not_eq_eq_eq_not, Bool.not_true, Bool.not_false, inR, Bool.and_eq_true, Bool.and_eq_false_iff, bne_iff_ne, bne_eq_false_iff_eq, decide_eq_true_eq, decide_eq_false_iff_not, beq_iff_eq, beq_eq_false_iff_ne, ne_eq] at *)
  all_goals (clear w1 w2 w3 w4 w5)
  all_goals (try subst b1; try subst b2; try subst b3)
  all_goals (try simp only [true_iff, false_iff, Bool.false_eq_true, reduceCtorEq] at *)
  all_goals (unfold insFault; repeat' split)
  all_goals (first | rfl | omega)
abbrev shrI (a : Int) (n : Nat) : Int := a.fdiv (2 ^ (min n 64))
def insOf (w : Int) : InsM := ⟨shrI w 24, andI (shrI w 20) 15, andI (shrI w 16) 15, andI w 65535⟩
def decIns (w : Int) : Int × InsM := if insFault (insOf w) = 0 then (0, insOf w) else (5, ⟨0, 0, 0, 0⟩)
abbrev insR (p : Int × InsM) : RV1 := .agg [.v (.int .i64 p.1), .v (.int .i64 p.2.op), .v (.int .i64 p.2.d), .v (.int .i64 p.2.a), .v (.int .i64 p.2.imm)]
abbrev insRLV (p : Int × InsM) : LV := .agg [di p.1, di p.2.op, di p.2.d, di p.2.a, di p.2.imm]
theorem c_impl_DecodeIns (w : Int) : FnOK Try.prog 111 [di w] (.r (insR (decIns w))) := by
  have cf := c_impl_InsFault (insOf w)
  generalize hv : decIns w = v
  unfold decIns at hv
  refine fn_of lv111 Try.func111 rfl rfl (by kernel_rfl) rfl ?_
  refine ask_intro (by decide) ?_
  refine ask_intro (by decide) ?_
  refine ask_intro (by decide) ?_
  refine .inl ⟨_, _, rfl, cf, rfl, ?_⟩
  refine bsplit_intro (fun h => ?_) (fun h => ?_)
  · rw [if_neg (by simpa using h)] at hv
    subst hv
    exact ⟨⟨rfl, rfl, rfl, rfl, rfl, trivial⟩, rfl⟩
  · rw [if_pos (by simpa using h)] at hv
    subst hv
    exact ⟨⟨rfl, rfl, rfl, rfl, rfl, trivial⟩, rfl⟩
theorem c_spec_l2Decode (w : Int) (hw : isW w = true) : FnOK Try.prog 142 [di w] (.tup [insV (insOf w), .one (.v (.bool (insFault (insOf w) == 0)))]) := by
  have cf := c_spec_InsFault (insOf w)
  refine fn_of lv142 Try.func142 rfl rfl (by kernel_rfl) rfl ?_
  refine .inl ⟨_, _, rfl, c_spec_l1In w 0 4294967295, rfl, ?_⟩
  refine bsplit_of_false (by rw [show inR w 0 4294967295 = true from hw]; rfl) ?_
  refine ask_intro (by decide) ?_
  refine ask_intro (by decide) ?_
  refine ask_intro (by decide) ?_
  refine .inl ⟨_, _, rfl, cf, rfl, ?_⟩
  refine chk_intro (by kernel_rfl) ?_
  exact ⟨⟨rfl, rfl, rfl, rfl, rfl, trivial⟩, rfl⟩
theorem c_spec_DecodeIns (w : Int) (hw : isW w = true) : FnOK Try.prog 110 [di w] (.r (insR (decIns w))) := by
  have cf := c_spec_l2Decode w hw
  generalize hv : decIns w = v
  unfold decIns at hv
  refine fn_of lv110 Try.func110 rfl rfl (by kernel_rfl) rfl ?_
  refine .inl ⟨_, _, rfl, cf, rfl, ?_⟩
  refine bsplit_intro (fun h => ?_) (fun h => ?_)
  · rw [if_neg (by simpa using h)] at hv
    subst hv
    exact ⟨⟨rfl, rfl, rfl, rfl, rfl, trivial⟩, rfl⟩
  · rw [if_pos (by simpa using h)] at hv
    subst hv
    exact ⟨⟨rfl, rfl, rfl, rfl, rfl, trivial⟩, rfl⟩
theorem placeM_run {m : HartM} {l : List PageM} {mem : List Int} (ok : StepOK m l mem) (at_ : Int) (h : (placeM m l mem at_ 4).1 = 0) : 0 ≤ (placeM m l mem at_ 4).2 ∧ (placeM m l mem at_ 4).2 < mem.length := by
  have hc : kindC 4 ≠ 0 := by decide
  unfold placeM at h ⊢
  split
  · rename_i h0
    rw [if_pos h0] at h
    split
    · rename_i h1; rw [if_pos h1] at h; exact absurd h hc
    · rename_i h1
      rw [if_neg h1] at h
      split
      · rename_i h2; rw [if_pos h2, if_pos rfl] at h; simp at h
      · rename_i h2
        rw [if_neg h2] at h
        split
        · rename_i h3; rw [if_pos h3] at h; exact absurd h hc
        · rename_i h3
          rcases walkP_b ok.pgs (by omega) (walkP (spaceM m l mem).2 at_ 4) 4 with hw | ⟨hw, _, p, hp, hw2⟩
          · omega
          · exact ⟨hw, by have := ok.top p hp; show walkP l _ 4 < (mem.length : Int); omega⟩
  · rename_i h0
    rw [if_neg h0] at h
    exact absurd h h0
def nextIns (m : HartM) (l : List PageM) (mem : List Int) : Int × InsM :=
  if (placeOf m l mem m.pc 4).1 = 0 then decIns (mem.getD (placeOf m l mem m.pc 4).2.toNat 0) else ((placeOf m l mem m.pc 4).1, ⟨0, 0, 0, 0⟩)
theorem placeOf_run {m : HartM} {l : List PageM} {mem : List Int} (at_ : Int) (h : (placeOf m l mem at_ 4).1 = 0) : stepF m l mem = 0 ∧ placeOf m l mem at_ 4 = placeM m l mem at_ 4 ∧ 0 ≤ (placeOf m l mem at_ 4).2 ∧ (placeOf m l mem at_ 4).2 < mem.length ∧ isW (mem.getD (placeOf m l mem at_ 4).2.toNat 0) = true := by
  by_cases h0 : stepF m l mem = 0
  · have e : placeOf m l mem at_ 4 = placeM m l mem at_ 4 := by unfold placeOf; rw [if_pos h0]; rfl
    rw [e] at h
    have h2 := placeM_run (stepF_ok h0) at_ h
    rw [e]
    refine ⟨h0, rfl, h2.1, h2.2, ?_⟩
    rw [getD_at _ (by omega)]
    exact (stepF_ok h0).ram.word _ (List.getElem_mem _)
  · unfold placeOf at h
    rw [if_neg h0] at h
    exact absurd h h0
theorem c_impl_NextIns (m : HartM) (hs : m.small) (l : List PageM) (hl : l.length ≤ 1048576) (mem : List Int) (hm : mem.length ≤ 1048576) : FnOK Try.prog 64 [hartLV m, .d (pages l), .d (ints mem)] (.r (insR (nextIns m l mem))) := by
  have cp := c_impl_PlaceOf m hs l hl mem hm m.pc 4
  have hr := fun h => placeOf_run (m := m) (l := l) (mem := mem) m.pc h
  generalize hv : nextIns m l mem = v
  unfold nextIns at hv
  generalize placeOf m l mem m.pc 4 = q at *
  by_cases h0 : q.1 = 0
  · have hr := hr h0
    rw [if_pos h0] at hv
    have cd := c_impl_DecodeIns (mem.getD q.2.toNat 0)
    rw [hv] at cd
    refine fn_of lv64 Try.func64 rfl rfl (by kernel_rfl) rfl ?_
    refine .inl ⟨_, _, rfl, cp, rfl, ?_⟩
    refine bsplit_of_false (by rw [h0]; rfl) ?_
    refine ask_intro ⟨hr.2.2.1, hr.2.2.2.1, rfl⟩ ?_
    refine .inl ⟨_, _, rfl, cd, rfl, ?_⟩
    exact ⟨⟨rfl, rfl, rfl, rfl, rfl, trivial⟩, rfl⟩
  · rw [if_neg h0] at hv
    subst hv
    refine fn_of lv64 Try.func64 rfl rfl (by kernel_rfl) rfl ?_
    refine .inl ⟨_, _, rfl, cp, rfl, ?_⟩
    refine bsplit_of_true (bne_iff_ne.2 h0) ?_
    exact ⟨⟨rfl, rfl, rfl, rfl, rfl, trivial⟩, rfl⟩
theorem c_spec_NextIns (m : HartM) (hs : m.small) (l : List PageM) (hl : l.length ≤ 1048576) (mem : List Int) (hm : mem.length ≤ 1048576) : FnOK Try.prog 63 [hartLV m, .d (pages l), .d (ints mem)] (.r (insR (nextIns m l mem))) := by
  have ca := c_spec_l10Asked m hs l hl mem hm
  have cp := fun h => c_spec_l10Place m l mem (stepF_ok h) m.pc 4 rfl
  have hr := fun h => placeOf_run (m := m) (l := l) (mem := mem) m.pc h
  have hpo : stepF m l mem = 0 → placeOf m l mem m.pc 4 = placeM m l mem m.pc 4 := fun h => by unfold placeOf; rw [if_pos h]; rfl
  have hpo2 : stepF m l mem ≠ 0 → placeOf m l mem m.pc 4 = (stepF m l mem, 0) := fun h => by unfold placeOf; rw [if_neg h]
  generalize hv : nextIns m l mem = v
  unfold nextIns at hv
  by_cases hs0 : stepF m l mem = 0
  rotate_left
  · rw [hpo2 hs0, if_neg hs0] at hv
    subst hv
    refine fn_of lv63 Try.func63 rfl rfl (by kernel_rfl) rfl ?_
    refine .inl ⟨_, _, rfl, ca, rfl, ?_⟩
    refine bsplit_of_true (bne_iff_ne.2 hs0) ?_
    exact ⟨⟨rfl, rfl, rfl, rfl, rfl, trivial⟩, rfl⟩
  have cp := cp hs0
  rw [← hpo hs0] at cp
  clear hpo hpo2
  generalize placeOf m l mem m.pc 4 = q at *
  by_cases h0 : q.1 = 0
  · have hr := hr h0
    rw [if_pos h0] at hv
    have cd := c_spec_DecodeIns (mem.getD q.2.toNat 0) hr.2.2.2.2
    rw [hv] at cd
    refine fn_of lv63 Try.func63 rfl rfl (by kernel_rfl) rfl ?_
    refine .inl ⟨_, _, rfl, ca, rfl, ?_⟩
    refine bsplit_of_false (by rw [hs0]; rfl) ?_
    refine .inl ⟨_, _, rfl, cp, rfl, ?_⟩
    refine bsplit_of_false (by rw [h0]; rfl) ?_
    refine ask_intro ⟨hr.2.2.1, hr.2.2.2.1, rfl⟩ ?_
    refine .inl ⟨_, _, rfl, cd, rfl, ?_⟩
    exact ⟨⟨rfl, rfl, rfl, rfl, rfl, trivial⟩, rfl⟩
  · rw [if_neg h0] at hv
    subst hv
    refine fn_of lv63 Try.func63 rfl rfl (by kernel_rfl) rfl ?_
    refine .inl ⟨_, _, rfl, ca, rfl, ?_⟩
    refine bsplit_of_false (by rw [hs0]; rfl) ?_
    refine .inl ⟨_, _, rfl, cp, rfl, ?_⟩
    refine bsplit_of_true (bne_iff_ne.2 h0) ?_
    exact ⟨⟨rfl, rfl, rfl, rfl, rfl, trivial⟩, rfl⟩
theorem c_laws_eqIns (p q : InsM) : FnOK Try.prog 112 [insLV p, insLV q] (rb (decide (p = q))) := by
  refine fn_of lv112 Try.func112 rfl rfl (by kernel_rfl) rfl ?_
  repeat' (first | refine bsplit_true ?_ | refine bsplit_false ?_ | refine bsplit_intro (fun h => ?_) (fun h => ?_))
  all_goals refine ⟨⟨congrArg Value.bool ?_, trivial⟩, rfl⟩
  all_goals (obtain ⟨a1, a2, a3, a4⟩ := p; obtain ⟨b1, b2, b3, b4⟩ := q; simp_all)
theorem c_laws_eqInsResult (p q : Int × InsM) : FnOK Try.prog 65 [insRLV p, insRLV q] (rb (decide (p = q))) := by
  refine fn_of lv65 Try.func65 rfl rfl (by kernel_rfl) rfl ?_
  repeat' (first | refine bsplit_true ?_ | refine bsplit_false ?_ | refine .inl ⟨_, _, rfl, c_laws_eqIns p.2 q.2, rfl, ?_⟩ | refine bsplit_intro (fun h => ?_) (fun h => ?_))
  all_goals refine ⟨⟨congrArg Value.bool ?_, trivial⟩, rfl⟩
  all_goals (obtain ⟨a1, a2⟩ := p; obtain ⟨b1, b2⟩ := q; simp_all)
end Go.Proofs.Ytfcekiehcchebaa.L

/- The law function over the instruction that is next answers true. -/
set_option linter.unusedVariables false
set_option linter.unusedSimpArgs false
set_option maxRecDepth 100000
namespace Go.Proofs.Ytfcekiehcchebaa.L
open Go.RowKit
set_option maxHeartbeats 1600000 in
theorem c_laws_FnExactNextIns (x0 : HartM) (x1 : List PageM) (x2 : List Int) (ho_x0 : x0.ok) (ho_x1 : okPages x1) (ho_x2 : okInts x2) : FnOK Try.prog 11 [hartLV x0, .d (Go.Proofs.Ytfcekiehcchebaa.L.pages x1), .d (ints x2)] (rb true) := by
  have hs_x0 := ho_x0.small
  have hl16_x1 : x1.length * 16 ≤ 140737488355328 := by have := ho_x1.1; rw [reach_eq] at this; omega
  have hl8_x2 : x2.length * 8 ≤ 140737488355328 := by have := ho_x2.1; rw [reach_eq] at this; omega
  refine fn_of lv11 Try.func11 rfl rfl (by kernel_rfl) rfl ?_
  refine bsplit_intro (fun h => ?_) (fun h => ?_)
  · exact ⟨⟨rfl, trivial⟩, rfl⟩
  have hf_x2 : x2.length ≤ 1048576 := by simp at h; omega
  refine .inl ⟨_, _, rfl, c_laws_szHart x0 hs_x0 _ (by decide) (by decide), rfl, ?_⟩
  refine bsplit_intro (fun h => ?_) (fun h => ?_)
  · exact ⟨⟨rfl, trivial⟩, rfl⟩
  have hf_x0 := few_of_sz h
  have hq_x0 := hSz_le x0 (of_decide_eq_false h)
  refine .inl ⟨_, _, rfl, c_laws_szPageS x1 (hSz x0 1048576) (by omega) (by omega), rfl, ?_⟩
  refine bsplit_intro (fun h => ?_) (fun h => ?_)
  · exact ⟨⟨rfl, trivial⟩, rfl⟩
  have hf_x1 : x1.length ≤ 1048576 := by have := szq_of (q := hSz x0 1048576) h; omega
  have cs := c_spec_NextIns x0 hs_x0 x1 hf_x1 x2 hf_x2
  have ci := c_impl_NextIns x0 hs_x0 x1 hf_x1 x2 hf_x2
  have hf := trivial 
  obtain ⟨p, hp⟩ : ∃ p, p = nextIns x0 x1 x2 := ⟨_, rfl⟩
  rw [← hp] at cs ci
  have hb0 := hK_b x0 (1) hf_x0 (by omega) (by omega)
  have hb1 := len2_b x1 (hK4 x0 (1)) hf_x1 hb0.1 (by have := hb0.2; omega)
  have hb2 := ints_b x2 ((hK4 x0 (1)) + 2 * (x1.length : Int)) hf_x2 hb1.1 (by have := hb1.2; omega)
  refine .inl ⟨_, _, rfl, c_laws_toHart x0 hs_x0, rfl, ?_⟩
  repeat' (first | refine bsplit_true ?_ | refine bsplit_false ?_ | refine chk_intro (by kernel_rfl) ?_ | refine bsplit_of_false (by simp; done) ?_)
  refine .inl ⟨_, _, rfl, c_laws_toPageS x1 hl16_x1, rfl, ?_⟩
  repeat' (first | refine bsplit_true ?_ | refine bsplit_false ?_ | refine chk_intro (by kernel_rfl) ?_ | refine bsplit_of_false (by simp; done) ?_)
  refine .inl ⟨_, _, rfl, c_laws_toInt64S x2 hl8_x2, rfl, ?_⟩
  repeat' (first | refine bsplit_true ?_ | refine bsplit_false ?_ | refine chk_intro (by kernel_rfl) ?_ | refine bsplit_of_false (by simp; done) ?_)
  refine .inl ⟨_, _, rfl, cs, rfl, ?_⟩
  repeat' (first | refine bsplit_true ?_ | refine bsplit_false ?_ | refine chk_intro (by kernel_rfl) ?_ | refine bsplit_of_false (by simp; done) ?_)
  refine .inl ⟨_, _, rfl, c_laws_toHart x0 hs_x0, rfl, ?_⟩
  repeat' (first | refine bsplit_true ?_ | refine bsplit_false ?_ | refine chk_intro (by kernel_rfl) ?_ | refine bsplit_of_false (by simp; done) ?_)
  refine .inl ⟨_, _, rfl, c_laws_toPageS x1 hl16_x1, rfl, ?_⟩
  repeat' (first | refine bsplit_true ?_ | refine bsplit_false ?_ | refine chk_intro (by kernel_rfl) ?_ | refine bsplit_of_false (by simp; done) ?_)
  refine .inl ⟨_, _, rfl, c_laws_toInt64S x2 hl8_x2, rfl, ?_⟩
  repeat' (first | refine bsplit_true ?_ | refine bsplit_false ?_ | refine chk_intro (by kernel_rfl) ?_ | refine bsplit_of_false (by simp; done) ?_)
  refine .inl ⟨_, _, rfl, ci, rfl, ?_⟩
  repeat' (first | refine bsplit_true ?_ | refine bsplit_false ?_ | refine chk_intro (by kernel_rfl) ?_ | refine bsplit_of_false (by simp; done) ?_)
  refine .inl ⟨_, _, rfl, c_laws_eqInsResult p p, rfl, ?_⟩
  repeat' (first | refine bsplit_true ?_ | refine bsplit_false ?_ | refine chk_intro (by kernel_rfl) ?_ | refine bsplit_of_false (by simp; done) ?_)
  refine .inl ⟨_, _, rfl, c_laws_toHart x0 hs_x0, rfl, ?_⟩
  repeat' (first | refine bsplit_true ?_ | refine bsplit_false ?_ | refine chk_intro (by kernel_rfl) ?_ | refine bsplit_of_false (by simp; done) ?_)
  refine .inl ⟨_, _, rfl, c_laws_eqHart x0 x0 hs_x0, rfl, ?_⟩
  repeat' (first | refine bsplit_true ?_ | refine bsplit_false ?_ | refine chk_intro (by kernel_rfl) ?_ | refine bsplit_of_false (by simp; done) ?_)
  refine .inl ⟨_, _, rfl, c_laws_toPageS x1 hl16_x1, rfl, ?_⟩
  repeat' (first | refine bsplit_true ?_ | refine bsplit_false ?_ | refine chk_intro (by kernel_rfl) ?_ | refine bsplit_of_false (by simp; done) ?_)
  refine .inl ⟨_, _, rfl, c_laws_eqPageS x1 x1 (by omega), rfl, ?_⟩
  repeat' (first | refine bsplit_true ?_ | refine bsplit_false ?_ | refine chk_intro (by kernel_rfl) ?_ | refine bsplit_of_false (by simp; done) ?_)
  refine .inl ⟨_, _, rfl, c_laws_toInt64S x2 hl8_x2, rfl, ?_⟩
  repeat' (first | refine bsplit_true ?_ | refine bsplit_false ?_ | refine chk_intro (by kernel_rfl) ?_ | refine bsplit_of_false (by simp; done) ?_)
  refine .inl ⟨_, _, rfl, c_laws_eqInt64S x2 x2 (by omega), rfl, ?_⟩
  repeat' (first | refine bsplit_true ?_ | refine bsplit_false ?_ | refine chk_intro (by kernel_rfl) ?_ | refine bsplit_of_false (by simp; done) ?_)
  exact ⟨⟨rfl, trivial⟩, rfl⟩
end Go.Proofs.Ytfcekiehcchebaa.L

/- The law FnExactNextIns answers true at every input that its statement lets in. -/
set_option linter.unusedVariables false
set_option maxRecDepth 100000
namespace Go.Proofs.Ytfcekiehcchebaa.L.FnExactNextIns
open Go.RowKit Go.ChangeShapes Go.WideShapes Go.ChangeAt
theorem lifted (os : Os) (started : os.Started) (H : Type) (enc : TypeId × Value → H) :
    ReturnsInHanded {} Try.checked os 11 .any (Rows.fnExactNextInsSpec.pre6 enc Try.prog Try.f11 Rows.fnExactNextInsRow.domain false) (Rows.fnExactNextInsSpec.post enc Try.prog Try.f11 false true false false) := by
  refine returnsInHanded_of_change_sized (C := Try.checked) own started (by kernel_rfl) Try.func11
    (ChangeSpec.witness6 (enc := enc) (C := Try.checked) false ⟨#[], #[.agg #[.slice none 0 0, .int .i64 0, .slice none 0 0, .bool false, .bool false, .bool false, .int .i64 0, .slice none 0 0, .slice none 0 0], .slice none 0 0, .slice none 0 0], []⟩ 8 (by kernel_rfl) (by kernel_rfl) (by kernel_rfl) (by kernel_rfl)) ?_
  intro W base args ds gs before hval0 hW hcnd hsz0 _
  have hsz : (DataW.weightsEach Try.prog (Try.f11.params.toList ++ Rows.fnExactNextInsSpec.plain.varTypes Try.prog) (ds ++ gs)).all (· ≤ reachBytes) = true := hsz0
  have hval : ∀ (j : Nat) t v, Try.f11.params[j]? = some t → args[j]? = some v → Value.okWide Try.prog W .any base t v := hval0
  have hW' := hW
  obtain ⟨p, q, hA0, hV, rfl, hfz, hnd⟩ := hW
  have hA : DataW.TrodAll enc Try.prog W 0 (fun _ => true) true Try.f11.params.toList args.toList ds p := hA0
  rw [Try.params11] at hA hval hsz
  obtain ⟨v0, vs0, d0, ds0, p0, q0, hargs, rfl, rfl, h0, r0⟩ := trodAll_cons hA
  obtain ⟨v1, vs1, d1, ds1, p1, q1, rfl, rfl, rfl, h1, r1⟩ := trodAll_cons r0
  obtain ⟨v2, vs2, d2, ds2, p2, q2, rfl, rfl, rfl, h2, r2⟩ := trodAll_cons r1
  obtain ⟨rfl, rfl, rfl⟩ := trodAll_nil r2
  obtain rfl : args = #[v0, v1, v2] := by cases args; simp_all
  obtain ⟨rfl, rfl⟩ := trodVars_none hV
  have hsm : ∀ k ∈ DataW.weightsEach Try.prog ([24, 25, 22] ++ Rows.fnExactNextInsSpec.plain.varTypes Try.prog) ([d0, d1, d2] ++ []), k ≤ reachBytes := fun k hk => by simpa using List.all_eq_true.1 hsz k hk
  have k0 := h0
  have lt0 : ∀ x ∈ p0, x.block < W.heap.size := by obtain ⟨m, hm⟩ := k0; exact DataW.trod_lt m _ _ _ hm
  obtain ⟨m0, hm0, hvr0⟩ := reads_Hart.agg Try.underlying24 (hval 0 24 v0 rfl rfl) h0 (fun k hk => hsm k (DataW.weights_mem_each (j := 0) rfl rfl k hk))
  have k1 := h1
  have lt1 : ∀ x ∈ p1, x.block < W.heap.size := by obtain ⟨m, hm⟩ := k1; exact DataW.trod_lt m _ _ _ hm
  have c1 : v1.cells = #[v1] := by have z := okWide_slice Try.underlying25 (hval 1 25 v1 rfl rfl); (first | (obtain ⟨_, rfl⟩ := z; rfl) | (obtain ⟨_, _, _, rfl⟩ := z; rfl))
  obtain ⟨m1, hm1, hvr1⟩ := reads_pages.one c1 h1 (fun k hk => hsm k (DataW.weights_mem_each (j := 1) rfl rfl k hk))
  have k2 := h2
  have lt2 : ∀ x ∈ p2, x.block < W.heap.size := by obtain ⟨m, hm⟩ := k2; exact DataW.trod_lt m _ _ _ hm
  have c2 : v2.cells = #[v2] := by have z := okWide_slice Try.underlying22 (hval 2 22 v2 rfl rfl); (first | (obtain ⟨_, rfl⟩ := z; rfl) | (obtain ⟨_, _, _, rfl⟩ := z; rfl))
  obtain ⟨m2, hm2, hvr2⟩ := reads_ints.one c2 h2 (fun k hk => hsm k (DataW.weights_mem_each (j := 2) rfl rfl k hk))
  refine ((c_laws_FnExactNextIns m0 m1 m2 hm0 hm1 hm2).calls W (Mem W) [v0, v1, v2] (fun b hb => hb) rfl (fun j hj => ?_)).mono fun e W' ⟨v, he, bel, hrr⟩ => ?_
  · match j, hj with
    | 0, _ => exact hvr0
    | 1, _ => exact hvr1
    | 2, _ => exact hvr2
    | j + 3, hj => exact absurd hj (by simp)
  · obtain ⟨us, J, hl, rfl, hJ, hok, _, _⟩ := hrr.ex
    have h1 := hok 0 _ rfl
    have h2 : RV.val us (rb true) = .bool true := h1
    rw [h2] at he
    subst he
    exact ⟨_, rfl, _, _, _, [], _, [], hW', trodAll_mk1 (shut_bool Try.underlying4 _), (trodAll_cons_mk (Below.trod laidOut (by kernel_rfl) (of_decide_eq_true (by kernel_rfl)) k0 bel lt0) (trodAll_cons_mk (Below.trod laidOut (by kernel_rfl) (of_decide_eq_true (by kernel_rfl)) k1 bel lt1) (trodAll_cons_mk (Below.trod laidOut (by kernel_rfl) (of_decide_eq_true (by kernel_rfl)) k2 bel lt2) trodAll_mk0))), rfl, bel.frame _, fun h => by cases h⟩
theorem over : Rows.fnExactNextInsRow.holds Try.pinned (OpenSpec.ofChange Rows.fnExactNextInsSpec) :=
  OpenClaim.holds_of_wide 11 Try.f11 rfl rfl rfl rfl rfl rfl rfl ⟨rfl, rfl, rfl, rfl, rfl⟩ rfl rfl rfl rfl rfl (by kernel_rfl) Try.func11 (by kernel_rfl)
    (of_decide_eq_true (by kernel_rfl)) (by unfold Func.isWrapper; first | (rw [if_pos (by decide +kernel)]; kernel_rfl) | (rw [if_neg (by decide +kernel)]; exact ⟨rfl, rfl⟩))
    (fun os started H enc _ => lifted os started H enc)
end Go.Proofs.Ytfcekiehcchebaa.L.FnExactNextIns
namespace Go.Proofs.Ytfcekiehcchebaa
theorem fnExactNextIns_holds : Rows.FnExactNextInsSaid := L.FnExactNextIns.over
#print axioms fnExactNextIns_holds
end Go.Proofs.Ytfcekiehcchebaa
