/- What the law functions compute on pages and lonely machines: contracts. -/
import Derived.Test.YtfcekiehcchebaaPa
import Derived.Test.YtfcekiehcchebaaCf
import Derived.Test.YtfcekiehcchebaaCr
import Derived.Test.YtfcekiehcchebaaDa
set_option linter.unusedVariables false
set_option linter.unusedSimpArgs false
set_option maxRecDepth 100000
namespace Go.Proofs.Ytfcekiehcchebaa.L
open Go.RowKit
abbrev pageLV (p : PageM) : LV := .agg [di p.to, di p.kinds]
abbrev oPages (l : List PageM) : RC := .own 129 2 l.length (pagesF l)
theorem c_laws_toPage (p : PageM) : FnOK Try.prog 98 [pageLV p] (.r (.agg [.v (.int .i64 p.to), .v (.int .i64 p.kinds)])) := by
  refine fn_of lv98 Try.func98 rfl rfl (by kernel_rfl) rfl ?_
  exact ⟨⟨rfl, rfl, trivial⟩, rfl⟩
theorem c_laws_toPageS (l : List PageM) (hl : l.length * 16 ≤ 140737488355328) : FnOK Try.prog 45 [.d (pages l)] (.r (.one (oPages l))) := by
  refine fn_of lv45 Try.func45 rfl rfl (by kernel_rfl) rfl ?_
  refine ask_intro ⟨rfl, by omega, by show (l.length : Int) * 16 ≤ 140737488355328; omega, by omega⟩ ?_
  refine ⟨{ i : Nat // i ≤ l.length }, fun i => ⟨frL [(0, .d (pages l)), (3, .row 96), (4, di i.1)], hpL [(96, .row 129 2 l.length fun j => if j < i.1 then pagesF l j else pageD ⟨0, 0⟩)], 97, 0⟩, fun i => l.length - i.1, ⟨0, by omega⟩,
    le_of [(96, 4160)] rfl rfl rfl rfl (tellHp_row rfl rfl rfl (fun i hi => rfl) tellHp_nil) (tellFr_d rfl (DLe.refl _) (tellFr_row rfl rfl (tellFr_v rfl rfl trivial))), ?_⟩
  rintro ⟨i, hi⟩
  refine bsplit_intro (fun h => ?_) (fun h => ?_)
  · have h : i < l.length := by simp at h; exact h
    refine ask_intro ⟨by omega, by simp; omega, rfl⟩ ?_
    refine .inl ⟨_, _, rfl, c_laws_toPage (l.getD i ⟨0, 0⟩), rfl, ?_⟩
    refine ask_intro ⟨by omega, by simp; omega⟩ ?_
    refine ask_intro (by show i < l.length; exact h) ?_
    refine ⟨⟨i + 1, by omega⟩, le_of [(96, 96)] rfl rfl rfl rfl (tellHp_row rfl rfl rfl (fun j hj => ?_) tellHp_nil) (tellFr_d rfl (DLe.refl _) (tellFr_row rfl rfl (tellFr_v rfl (congrArg (Value.int .i64) (?_ : IntKind.i64.wrap ((i : Int) + 1) = ((i + 1 : Nat) : Int))) trivial))), ?_⟩
    · show (if j = i then splice (if j < i then pagesF l j else pageD ⟨0, 0⟩) 0 (pageD (l.getD i ⟨0, 0⟩)) else if j < i then pagesF l j else pageD ⟨0, 0⟩) = if j < i + 1 then pagesF l j else pageD ⟨0, 0⟩
      by_cases h1 : j = i
      · subst h1
        rw [if_pos rfl, if_neg (by omega), if_pos (by omega)]
        rfl
      · rw [if_neg h1]
        by_cases h2 : j < i
        · rw [if_pos h2, if_pos (by omega)]
        · rw [if_neg h2, if_neg (by omega)]
    · exact wrap_i64 (i + 1) (by omega) (by omega)
    · show l.length - (i + 1) < l.length - i
      omega
  · simp at h
    refine ⟨⟨⟨rfl, rfl, rfl, fun j hj => ⟨?_, rfl⟩⟩, trivial⟩, rfl⟩
    show (if j < i then pagesF l j else _) = _
    rw [if_pos (by omega)]
theorem c_laws_szPageS (l : List PageM) (q : Int) (hq : -9223372036854775808 ≤ q - l.length) (hq2 : q - l.length < 9223372036854775808) : FnOK Try.prog 43 [.d (pages l), di q] (ri (if q - l.length < 0 then -1 else q - l.length)) := by
  refine fn_of lv43 Try.func43 rfl rfl rfl rfl ?_
  refine bsplit_intro (fun h => ?_) (fun h => ?_)
  · refine ⟨⟨congrArg (Value.int .i64) (?_ : (-1 : Int) = _), trivial⟩, rfl⟩
    rw [wrap_i64 _ hq hq2] at h
    simp only [decide_eq_true_eq] at h
    rw [if_pos h]
  · refine ⟨⟨congrArg (Value.int .i64) (?_ : IntKind.i64.wrap (q - l.length) = _), trivial⟩, rfl⟩
    rw [wrap_i64 _ hq hq2] at h ⊢
    simp only [decide_eq_false_iff_not] at h
    rw [if_neg h]
theorem c_laws_eqPage (p q : PageM) : FnOK Try.prog 101 [pageLV p, pageLV q] (rb (decide (p = q))) := by
  refine fn_of lv101 Try.func101 rfl rfl (by kernel_rfl) rfl ?_
  repeat' (first | refine bsplit_true ?_ | refine bsplit_false ?_ | refine bsplit_intro (fun h => ?_) (fun h => ?_))
  all_goals refine ⟨⟨congrArg Value.bool ?_, trivial⟩, rfl⟩
  all_goals (obtain ⟨a1, a2⟩ := p; obtain ⟨b1, b2⟩ := q; simp_all)
theorem drop_consG {α : Type} (d : α) (l : List α) (i : Nat) (h : i < l.length) : l.drop i = l.getD i d :: l.drop (i + 1) :=
  (List.drop_eq_getElem_cons h).trans (by rw [show l[i] = l.getD i d by simp [List.getD, List.getElem?_eq_getElem h]])
theorem c_laws_eqPageS (l m : List PageM) (hl : l.length ≤ 9223372036854775807) : FnOK Try.prog 49 [.d (pages l), .d (pages m)] (rb (decide (l = m))) := by
  refine fn_of lv49 Try.func49 rfl rfl (by kernel_rfl) rfl ?_
  refine bsplit_intro (fun h => ?_) (fun h => ?_)
  · refine ⟨⟨congrArg Value.bool (?_ : false = _), trivial⟩, rfl⟩
    simp at h
    symm
    rw [decide_eq_false_iff_not]
    rintro rfl
    exact h rfl
  have hlen : l.length = m.length := by simp at h; omega
  refine ⟨{ i : Nat // i ≤ l.length ∧ decide (l.drop i = m.drop i) = decide (l = m) }, fun i => ⟨frL [(0, .d (pages l)), (1, .d (pages m)), (5, di i.1)], hpL [], 0, 0⟩, fun i => l.length - i.1, ⟨0, by simp⟩,
    le_of [] rfl rfl rfl rfl trivial (tellFr_d rfl (DLe.refl _) (tellFr_d rfl (DLe.refl _) (tellFr_v rfl rfl trivial))), ?_⟩
  rintro ⟨i, hi, hall⟩
  refine bsplit_intro (fun h => ?_) (fun h => ?_)
  · have h : i < l.length := by simp at h; exact h
    rw [drop_consG ⟨0, 0⟩ l i h, drop_consG ⟨0, 0⟩ m i (by omega)] at hall
    refine ask_intro ⟨by omega, by simp; omega, rfl⟩ ?_
    refine ask_intro ⟨by omega, by simp; omega, rfl⟩ ?_
    refine .inl ⟨_, _, rfl, c_laws_eqPage (l.getD i ⟨0, 0⟩) (m.getD i ⟨0, 0⟩), rfl, ?_⟩
    refine chk_intro (by kernel_rfl) ?_
    refine bsplit_intro (fun h2 => ?_) (fun h2 => ?_)
    · refine ⟨⟨congrArg Value.bool (?_ : false = _), trivial⟩, rfl⟩
      have h2 : ¬ l.getD i ⟨0, 0⟩ = m.getD i ⟨0, 0⟩ := by simpa only [Bool.not_eq_true', decide_eq_false_iff_not] using h2
      rw [← hall]
      symm
      rw [decide_eq_false_iff_not]
      intro e
      exact h2 (List.cons.inj e).1
    · have h2 : l.getD i ⟨0, 0⟩ = m.getD i ⟨0, 0⟩ := by simpa only [Bool.not_eq_false', decide_eq_true_eq] using h2
      rw [h2] at hall
      refine ⟨⟨i + 1, by omega, by rw [← hall]; simp⟩, le_of [] rfl rfl rfl rfl trivial (tellFr_d rfl (DLe.refl _) (tellFr_d rfl (DLe.refl _) (tellFr_v rfl (congrArg (Value.int .i64) (?_ : IntKind.i64.wrap ((i : Int) + 1) = ((i + 1 : Nat) : Int))) trivial))), by show l.length - (i + 1) < l.length - i; omega⟩
      exact wrap_i64 (i + 1) (by omega) (by omega)
  · refine ⟨⟨congrArg Value.bool (?_ : true = _), trivial⟩, rfl⟩
    simp at h
    rw [← hall, List.drop_eq_nil_of_le h, List.drop_eq_nil_of_le (by omega)]; simp
end Go.Proofs.Ytfcekiehcchebaa.L
