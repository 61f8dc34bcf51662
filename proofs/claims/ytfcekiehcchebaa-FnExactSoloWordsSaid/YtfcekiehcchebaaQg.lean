/- What the law functions compute that mark pages: contracts. -/
import Derived.Test.YtfcekiehcchebaaQf
set_option linter.unusedVariables false
set_option linter.unusedSimpArgs false
set_option maxRecDepth 100000
namespace Go.Proofs.Ytfcekiehcchebaa.L
open Go.RowKit
abbrev rowP (l : List PageM) : Ent := .row 129 2 l.length (pagesF l)
/-- pages that bear the numbers from k on -/
abbrev pageMk (k : Int) (j : Nat) : List D := [.v (.int .i64 (k + 2 * (j : Int))), .v (.int .i64 (k + 2 * (j : Int) + 1))]
theorem c_laws_markPageS (l : List PageM) (k : Int) (hl : l.length ≤ 1099511627776) (hk : 0 ≤ k) (hk2 : k ≤ 1099511627776) :
    MutOK Try.prog 51 [.row 0, di k] 1 [(0, rowP l)] (di (k + 2 * l.length)) 1 [(0, .row 129 2 l.length (pageMk k))] := by
  refine mut_fn_of lv51 Try.func51 rfl rfl (by kernel_rfl) rfl [] ?_
  refine ⟨{ i : Nat // i ≤ l.length }, fun i => ⟨frL [(0, .row 0), (1, di (k + 2 * (i.1 : Int))), (5, di i.1)], hpL [(0, .row 129 2 l.length fun j => if j < i.1 then pageMk k j else pagesF l j)], 1, 1⟩, fun i => l.length - i.1, ⟨0, by omega⟩,
    le_of [] rfl rfl rfl rfl (tellHp_row rfl rfl rfl (fun i hi => rfl) tellHp_nil) (tellFr_row rfl rfl (tellFr_v rfl (congrArg (Value.int .i64) (?_ : k = k + 2 * ((0 : Nat) : Int))) (tellFr_v rfl rfl trivial))), ?_⟩
  · omega
  rintro ⟨i, hi⟩
  refine bsplit_intro (fun h => ?_) (fun h => ?_)
  · have h : i < l.length := by simp at h; exact h
    have w1 : IntKind.i64.wrap (k + 2 * (i : Int) + 1) = k + 2 * (i : Int) + 1 := wrap_i64 _ (by omega) (by omega)
    refine ask_intro ⟨by omega, by simp; omega⟩ ?_
    refine ask_intro (by show i < l.length; exact h) ?_
    refine ask_intro ⟨by omega, by simp; omega⟩ ?_
    refine ask_intro (by show i < l.length; exact h) ?_
    refine ⟨⟨i + 1, by omega⟩, le_of [] rfl rfl rfl rfl (tellHp_row rfl rfl rfl (fun j hj => ?_) tellHp_nil) (tellFr_row rfl rfl (tellFr_v rfl (congrArg (Value.int .i64) (?_ : IntKind.i64.wrap (IntKind.i64.wrap (k + 2 * (i : Int) + 1) + 1) = k + 2 * ((i + 1 : Nat) : Int))) (tellFr_v rfl (congrArg (Value.int .i64) (?_ : IntKind.i64.wrap ((i : Int) + 1) = ((i + 1 : Nat) : Int))) trivial))), by show l.length - (i + 1) < l.length - i; omega⟩
    · show (if j = i then splice (if j = i then splice (if j < i then pageMk k j else pagesF l j) 0 [D.v (.int .i64 (k + 2 * (i : Int)))] else if j < i then pageMk k j else pagesF l j) 1 [D.v (.int .i64 (IntKind.i64.wrap (k + 2 * (i : Int) + 1)))] else if j = i then splice (if j < i then pageMk k j else pagesF l j) 0 [D.v (.int .i64 (k + 2 * (i : Int)))] else if j < i then pageMk k j else pagesF l j) = if j < i + 1 then pageMk k j else pagesF l j
      by_cases h1 : j = i
      · subst h1
        rw [if_pos rfl, if_pos rfl, if_neg (by omega), if_pos (by omega), w1]
        rfl
      · rw [if_neg h1, if_neg h1]
        by_cases h2 : j < i
        · rw [if_pos h2, if_pos (by omega)]
        · rw [if_neg h2, if_neg (by omega)]
    · rw [w1, wrap_i64 _ (by omega) (by omega)]; omega
    · exact wrap_i64 (i + 1) (by omega) (by omega)
  · simp at h
    have e : i = l.length := by omega
    subst e
    refine chk_intro (by kernel_rfl) ⟨tellV_v rfl rfl, tellHp_row rfl rfl rfl (fun j hj => ?_) tellHp_nil⟩
    show (if j < l.length then pageMk k j else pagesF l j) = pageMk k j
    rw [if_pos hj]
end Go.Proofs.Ytfcekiehcchebaa.L
