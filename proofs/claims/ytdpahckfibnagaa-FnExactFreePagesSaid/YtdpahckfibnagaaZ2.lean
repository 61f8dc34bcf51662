/- The law FnExactFreePages answers true at every input that its statement lets in. -/
import Derived.Test.YtdpahckfibnagaaRows
import Derived.Test.YtdpahckfibnagaaZ1
/- What the law functions compute that mark policies: contracts. -/
set_option linter.unusedVariables false
set_option linter.unusedSimpArgs false
set_option maxRecDepth 100000
namespace Go.Proofs.Ytdpahckfibnagaa.L
open Go.RowKit
abbrev rowLane (l : List LaneM) : Ent := .row 84 5 l.length (lanesF l)
abbrev laneMk (k : Int) (j : Nat) : List D := [.v (.int .i64 (k + 5 * (j : Int))), .v (.int .i64 (k + 5 * (j : Int) + 1)), .v (.int .i64 (k + 5 * (j : Int) + 2)), .v (.int .i64 (k + 5 * (j : Int) + 3)), .v (.int .i64 (k + 5 * (j : Int) + 4))]
set_option maxHeartbeats 1600000 in
theorem c_laws_markLaneS (l : List LaneM) (k : Int) (hl : l.length ≤ 109951162777) (hk : 0 ≤ k) (hk2 : k ≤ 1099511627776) :
    MutOK Try.prog 87 [.row 0, di k] 1 [(0, rowLane l)] (di (k + 5 * l.length)) 1 [(0, .row 84 5 l.length (laneMk k))] := by
  refine mut_fn_of lv87 Try.func87 rfl rfl (by kernel_rfl) rfl [] ?_
  refine ⟨{ i : Nat // i ≤ l.length }, fun i => ⟨frL [(0, .row 0), (1, di (k + 5 * (i.1 : Int))), (5, di i.1)], hpL [(0, .row 84 5 l.length fun j => if j < i.1 then laneMk k j else lanesF l j)], 1, 1⟩, fun i => l.length - i.1, ⟨0, by omega⟩,
    le_of [] rfl rfl rfl rfl (tellHp_row rfl rfl rfl (fun i hi => rfl) tellHp_nil) (tellFr_row rfl rfl (tellFr_v rfl (congrArg (Value.int .i64) (?_ : k = k + 5 * ((0 : Nat) : Int))) (tellFr_v rfl rfl trivial))), ?_⟩
  · omega
  rintro ⟨i, hi⟩
  refine bsplit_intro (fun h => ?_) (fun h => ?_)
  · have h : i < l.length := by simp at h; exact h
    have w1 : IntKind.i64.wrap (k + 5 * (i : Int) + 1) = k + 5 * (i : Int) + 1 := (wrap_i64 _ (by omega) (by omega)).trans (by omega)
    have w2 : IntKind.i64.wrap (k + 5 * (i : Int) + 1 + 1) = k + 5 * (i : Int) + 2 := (wrap_i64 _ (by omega) (by omega)).trans (by omega)
    have w3 : IntKind.i64.wrap (k + 5 * (i : Int) + 2 + 1) = k + 5 * (i : Int) + 3 := (wrap_i64 _ (by omega) (by omega)).trans (by omega)
    have w4 : IntKind.i64.wrap (k + 5 * (i : Int) + 3 + 1) = k + 5 * (i : Int) + 4 := (wrap_i64 _ (by omega) (by omega)).trans (by omega)
    refine ask_intro ⟨by omega, by show (i : Int) < (l.length : Int); omega⟩ ?_
    refine ask_intro (by show i < l.length; exact h) ?_
    refine ask_intro ⟨by omega, by show (i : Int) < (l.length : Int); omega⟩ ?_
    refine ask_intro (by show i < l.length; exact h) ?_
    refine ask_intro ⟨by omega, by show (i : Int) < (l.length : Int); omega⟩ ?_
    refine ask_intro (by show i < l.length; exact h) ?_
    refine ask_intro ⟨by omega, by show (i : Int) < (l.length : Int); omega⟩ ?_
    refine ask_intro (by show i < l.length; exact h) ?_
    refine ask_intro ⟨by omega, by show (i : Int) < (l.length : Int); omega⟩ ?_
    refine ask_intro (by show i < l.length; exact h) ?_
    refine ⟨⟨i + 1, by omega⟩, le_of [] rfl rfl rfl rfl (tellHp_row rfl rfl rfl (fun j hj => ?_) tellHp_nil) (tellFr_row rfl rfl (tellFr_v rfl (congrArg (Value.int .i64) (?_ : IntKind.i64.wrap (IntKind.i64.wrap (IntKind.i64.wrap (IntKind.i64.wrap (IntKind.i64.wrap (k + 5 * (i : Int) + 1) + 1) + 1) + 1) + 1) = k + 5 * ((i + 1 : Nat) : Int))) (tellFr_v rfl (congrArg (Value.int .i64) (?_ : IntKind.i64.wrap ((i : Int) + 1) = ((i + 1 : Nat) : Int))) trivial))), by show l.length - (i + 1) < l.length - i; omega⟩
    · show (if j = i then splice (if j = i then splice (if j = i then splice (if j = i then splice (if j = i then splice (if j < i then laneMk k j else lanesF l j) 0 [D.v (.int .i64 (k + 5 * (i : Int)))] else (if j < i then laneMk k j else lanesF l j)) 1 [D.v (.int .i64 (IntKind.i64.wrap (k + 5 * (i : Int) + 1)))] else (if j = i then splice (if j < i then laneMk k j else lanesF l j) 0 [D.v (.int .i64 (k + 5 * (i : Int)))] else (if j < i then laneMk k j else lanesF l j))) 2 [D.v (.int .i64 (IntKind.i64.wrap (IntKind.i64.wrap (k + 5 * (i : Int) + 1) + 1)))] else (if j = i then splice (if j = i then splice (if j < i then laneMk k j else lanesF l j) 0 [D.v (.int .i64 (k + 5 * (i : Int)))] else (if j < i then laneMk k j else lanesF l j)) 1 [D.v (.int .i64 (IntKind.i64.wrap (k + 5 * (i : Int) + 1)))] else (if j = i then splice (if j < i then laneMk k j else lanesF l j) 0 [D.v (.int .i64 (k + 5 * (i : Int)))] else (if j < i then laneMk k j else lanesF l j)))) 3 [D.v (.int .i64 (IntKind.i64.wrap (IntKind.i64.wrap (IntKind.i64.wrap (k + 5 * (i : Int) + 1) + 1) + 1)))] else (if j = i then splice (if j = i then splice (if j = i then splice (if j < i then laneMk k j else lanesF l j) 0 [D.v (.int .i64 (k + 5 * (i : Int)))] else (if j < i then laneMk k j else lanesF l j)) 1 [D.v (.int .i64 (IntKind.i64.wrap (k + 5 * (i : Int) + 1)))] else (if j = i then splice (if j < i then laneMk k j else lanesF l j) 0 [D.v (.int .i64 (k + 5 * (i : Int)))] else (if j < i then laneMk k j else lanesF l j))) 2 [D.v (.int .i64 (IntKind.i64.wrap (IntKind.i64.wrap (k + 5 * (i : Int) + 1) + 1)))] else (if j = i then splice (if j = i then splice (if j < i then laneMk k j else lanesF l j) 0 [D.v (.int .i64 (k + 5 * (i : Int)))] else (if j < i then laneMk k j else lanesF l j)) 1 [D.v (.int .i64 (IntKind.i64.wrap (k + 5 * (i : Int) + 1)))] else (if j = i then splice (if j < i then laneMk k j else lanesF l j) 0 [D.v (.int .i64 (k + 5 * (i : Int)))] else (if j < i then laneMk k j else lanesF l j))))) 4 [D.v (.int .i64 (IntKind.i64.wrap (IntKind.i64.wrap (IntKind.i64.wrap (IntKind.i64.wrap (k + 5 * (i : Int) + 1) + 1) + 1) + 1)))] else (if j = i then splice (if j = i then splice (if j = i then splice (if j = i then splice (if j < i then laneMk k j else lanesF l j) 0 [D.v (.int .i64 (k + 5 * (i : Int)))] else (if j < i then laneMk k j else lanesF l j)) 1 [D.v (.int .i64 (IntKind.i64.wrap (k + 5 * (i : Int) + 1)))] else (if j = i then splice (if j < i then laneMk k j else lanesF l j) 0 [D.v (.int .i64 (k + 5 * (i : Int)))] else (if j < i then laneMk k j else lanesF l j))) 2 [D.v (.int .i64 (IntKind.i64.wrap (IntKind.i64.wrap (k + 5 * (i : Int) + 1) + 1)))] else (if j = i then splice (if j = i then splice (if j < i then laneMk k j else lanesF l j) 0 [D.v (.int .i64 (k + 5 * (i : Int)))] else (if j < i then laneMk k j else lanesF l j)) 1 [D.v (.int .i64 (IntKind.i64.wrap (k + 5 * (i : Int) + 1)))] else (if j = i then splice (if j < i then laneMk k j else lanesF l j) 0 [D.v (.int .i64 (k + 5 * (i : Int)))] else (if j < i then laneMk k j else lanesF l j)))) 3 [D.v (.int .i64 (IntKind.i64.wrap (IntKind.i64.wrap (IntKind.i64.wrap (k + 5 * (i : Int) + 1) + 1) + 1)))] else (if j = i then splice (if j = i then splice (if j = i then splice (if j < i then laneMk k j else lanesF l j) 0 [D.v (.int .i64 (k + 5 * (i : Int)))] else (if j < i then laneMk k j else lanesF l j)) 1 [D.v (.int .i64 (IntKind.i64.wrap (k + 5 * (i : Int) + 1)))] else (if j = i then splice (if j < i then laneMk k j else lanesF l j) 0 [D.v (.int .i64 (k + 5 * (i : Int)))] else (if j < i then laneMk k j else lanesF l j))) 2 [D.v (.int .i64 (IntKind.i64.wrap (IntKind.i64.wrap (k + 5 * (i : Int) + 1) + 1)))] else (if j = i then splice (if j = i then splice (if j < i then laneMk k j else lanesF l j) 0 [D.v (.int .i64 (k + 5 * (i : Int)))] else (if j < i then laneMk k j else lanesF l j)) 1 [D.v (.int .i64 (IntKind.i64.wrap (k + 5 * (i : Int) + 1)))] else (if j = i then splice (if j < i then laneMk k j else lanesF l j) 0 [D.v (.int .i64 (k + 5 * (i : Int)))] else (if j < i then laneMk k j else lanesF l j)))))) = if j < i + 1 then laneMk k j else lanesF l j
      by_cases h1 : j = i
      · subst h1
        rw [if_pos (show j < j + 1 by omega)]
        simp only [eq_self, if_true, Nat.lt_irrefl, if_false, w1, w2, w3, w4]
        rfl
      · simp only [h1, if_false]
        by_cases h2 : j < i
        · rw [if_pos h2, if_pos (by omega)]
        · rw [if_neg h2, if_neg (by omega)]
    · simp only [w1, w2, w3, w4]
      rw [wrap_i64 _ (by omega) (by omega)]; omega
    · exact wrap_i64 (i + 1) (by omega) (by omega)
  · simp at h
    have e : i = l.length := by omega
    subst e
    refine chk_intro (by kernel_rfl) ⟨tellV_v rfl rfl, tellHp_row rfl rfl rfl (fun j hj => ?_) tellHp_nil⟩
    show (if j < l.length then laneMk k j else lanesF l j) = laneMk k j
    rw [if_pos hj]
abbrev rowBell (l : List BellM) : Ent := .row 87 2 l.length (bellsF l)
abbrev bellMk (k : Int) (j : Nat) : List D := [.v (.int .i64 (k + 2 * (j : Int))), .v (.int .i64 (k + 2 * (j : Int) + 1))]
set_option maxHeartbeats 1600000 in
theorem c_laws_markBellS (l : List BellM) (k : Int) (hl : l.length ≤ 109951162777) (hk : 0 ≤ k) (hk2 : k ≤ 1099511627776) :
    MutOK Try.prog 88 [.row 0, di k] 1 [(0, rowBell l)] (di (k + 2 * l.length)) 1 [(0, .row 87 2 l.length (bellMk k))] := by
  refine mut_fn_of lv88 Try.func88 rfl rfl (by kernel_rfl) rfl [] ?_
  refine ⟨{ i : Nat // i ≤ l.length }, fun i => ⟨frL [(0, .row 0), (1, di (k + 2 * (i.1 : Int))), (5, di i.1)], hpL [(0, .row 87 2 l.length fun j => if j < i.1 then bellMk k j else bellsF l j)], 1, 1⟩, fun i => l.length - i.1, ⟨0, by omega⟩,
    le_of [] rfl rfl rfl rfl (tellHp_row rfl rfl rfl (fun i hi => rfl) tellHp_nil) (tellFr_row rfl rfl (tellFr_v rfl (congrArg (Value.int .i64) (?_ : k = k + 2 * ((0 : Nat) : Int))) (tellFr_v rfl rfl trivial))), ?_⟩
  · omega
  rintro ⟨i, hi⟩
  refine bsplit_intro (fun h => ?_) (fun h => ?_)
  · have h : i < l.length := by simp at h; exact h
    have w1 : IntKind.i64.wrap (k + 2 * (i : Int) + 1) = k + 2 * (i : Int) + 1 := (wrap_i64 _ (by omega) (by omega)).trans (by omega)
    refine ask_intro ⟨by omega, by show (i : Int) < (l.length : Int); omega⟩ ?_
    refine ask_intro (by show i < l.length; exact h) ?_
    refine ask_intro ⟨by omega, by show (i : Int) < (l.length : Int); omega⟩ ?_
    refine ask_intro (by show i < l.length; exact h) ?_
    refine ⟨⟨i + 1, by omega⟩, le_of [] rfl rfl rfl rfl (tellHp_row rfl rfl rfl (fun j hj => ?_) tellHp_nil) (tellFr_row rfl rfl (tellFr_v rfl (congrArg (Value.int .i64) (?_ : IntKind.i64.wrap (IntKind.i64.wrap (k + 2 * (i : Int) + 1) + 1) = k + 2 * ((i + 1 : Nat) : Int))) (tellFr_v rfl (congrArg (Value.int .i64) (?_ : IntKind.i64.wrap ((i : Int) + 1) = ((i + 1 : Nat) : Int))) trivial))), by show l.length - (i + 1) < l.length - i; omega⟩
    · show (if j = i then splice (if j = i then splice (if j < i then bellMk k j else bellsF l j) 0 [D.v (.int .i64 (k + 2 * (i : Int)))] else (if j < i then bellMk k j else bellsF l j)) 1 [D.v (.int .i64 (IntKind.i64.wrap (k + 2 * (i : Int) + 1)))] else (if j = i then splice (if j < i then bellMk k j else bellsF l j) 0 [D.v (.int .i64 (k + 2 * (i : Int)))] else (if j < i then bellMk k j else bellsF l j))) = if j < i + 1 then bellMk k j else bellsF l j
      by_cases h1 : j = i
      · subst h1
        rw [if_pos (show j < j + 1 by omega)]
        simp only [eq_self, if_true, Nat.lt_irrefl, if_false, w1]
        rfl
      · simp only [h1, if_false]
        by_cases h2 : j < i
        · rw [if_pos h2, if_pos (by omega)]
        · rw [if_neg h2, if_neg (by omega)]
    · simp only [w1]
      rw [wrap_i64 _ (by omega) (by omega)]; omega
    · exact wrap_i64 (i + 1) (by omega) (by omega)
  · simp at h
    have e : i = l.length := by omega
    subst e
    refine chk_intro (by kernel_rfl) ⟨tellV_v rfl rfl, tellHp_row rfl rfl rfl (fun j hj => ?_) tellHp_nil⟩
    show (if j < l.length then bellMk k j else bellsF l j) = bellMk k j
    rw [if_pos hj]
abbrev rowSlot (l : List SlotM) : Ent := .row 45 2 l.length (slotsF l)
abbrev slotMk (k : Int) (j : Nat) : List D := [.v (.int .i64 (k + 2 * (j : Int))), .v (.int .i64 (k + 2 * (j : Int) + 1))]
set_option maxHeartbeats 1600000 in
theorem c_laws_markSlotS (l : List SlotM) (k : Int) (hl : l.length ≤ 109951162777) (hk : 0 ≤ k) (hk2 : k ≤ 1099511627776) :
    MutOK Try.prog 89 [.row 0, di k] 1 [(0, rowSlot l)] (di (k + 2 * l.length)) 1 [(0, .row 45 2 l.length (slotMk k))] := by
  refine mut_fn_of lv89 Try.func89 rfl rfl (by kernel_rfl) rfl [] ?_
  refine ⟨{ i : Nat // i ≤ l.length }, fun i => ⟨frL [(0, .row 0), (1, di (k + 2 * (i.1 : Int))), (5, di i.1)], hpL [(0, .row 45 2 l.length fun j => if j < i.1 then slotMk k j else slotsF l j)], 1, 1⟩, fun i => l.length - i.1, ⟨0, by omega⟩,
    le_of [] rfl rfl rfl rfl (tellHp_row rfl rfl rfl (fun i hi => rfl) tellHp_nil) (tellFr_row rfl rfl (tellFr_v rfl (congrArg (Value.int .i64) (?_ : k = k + 2 * ((0 : Nat) : Int))) (tellFr_v rfl rfl trivial))), ?_⟩
  · omega
  rintro ⟨i, hi⟩
  refine bsplit_intro (fun h => ?_) (fun h => ?_)
  · have h : i < l.length := by simp at h; exact h
    have w1 : IntKind.i64.wrap (k + 2 * (i : Int) + 1) = k + 2 * (i : Int) + 1 := (wrap_i64 _ (by omega) (by omega)).trans (by omega)
    refine ask_intro ⟨by omega, by show (i : Int) < (l.length : Int); omega⟩ ?_
    refine ask_intro (by show i < l.length; exact h) ?_
    refine ask_intro ⟨by omega, by show (i : Int) < (l.length : Int); omega⟩ ?_
    refine ask_intro (by show i < l.length; exact h) ?_
    refine ⟨⟨i + 1, by omega⟩, le_of [] rfl rfl rfl rfl (tellHp_row rfl rfl rfl (fun j hj => ?_) tellHp_nil) (tellFr_row rfl rfl (tellFr_v rfl (congrArg (Value.int .i64) (?_ : IntKind.i64.wrap (IntKind.i64.wrap (k + 2 * (i : Int) + 1) + 1) = k + 2 * ((i + 1 : Nat) : Int))) (tellFr_v rfl (congrArg (Value.int .i64) (?_ : IntKind.i64.wrap ((i : Int) + 1) = ((i + 1 : Nat) : Int))) trivial))), by show l.length - (i + 1) < l.length - i; omega⟩
    · show (if j = i then splice (if j = i then splice (if j < i then slotMk k j else slotsF l j) 0 [D.v (.int .i64 (k + 2 * (i : Int)))] else (if j < i then slotMk k j else slotsF l j)) 1 [D.v (.int .i64 (IntKind.i64.wrap (k + 2 * (i : Int) + 1)))] else (if j = i then splice (if j < i then slotMk k j else slotsF l j) 0 [D.v (.int .i64 (k + 2 * (i : Int)))] else (if j < i then slotMk k j else slotsF l j))) = if j < i + 1 then slotMk k j else slotsF l j
      by_cases h1 : j = i
      · subst h1
        rw [if_pos (show j < j + 1 by omega)]
        simp only [eq_self, if_true, Nat.lt_irrefl, if_false, w1]
        rfl
      · simp only [h1, if_false]
        by_cases h2 : j < i
        · rw [if_pos h2, if_pos (by omega)]
        · rw [if_neg h2, if_neg (by omega)]
    · simp only [w1]
      rw [wrap_i64 _ (by omega) (by omega)]; omega
    · exact wrap_i64 (i + 1) (by omega) (by omega)
  · simp at h
    have e : i = l.length := by omega
    subst e
    refine chk_intro (by kernel_rfl) ⟨tellV_v rfl rfl, tellHp_row rfl rfl rfl (fun j hj => ?_) tellHp_nil⟩
    show (if j < l.length then slotMk k j else slotsF l j) = slotMk k j
    rw [if_pos hj]
/-! ## rows of rows -/
abbrev nestE (l : List (List Int)) : Ent := .nest 56 2 1 l.length (lenF l) (inF l) []
abbrev offK (l : List (List Int)) (k : Int) (i : Nat) : Int := k + (sumN (l.take i) : Nat)
abbrev nestMk (l : List (List Int)) (k : Int) (i j : Nat) : List D := intsF (markL (offK l k i) (l.getD i []).length) j
theorem c_laws_markInt64SS (l : List (List Int)) (k : Int) (hl : l.length ≤ 1048576) (hs : sumN l ≤ 1048576) (hk : 0 ≤ k) (hk2 : k ≤ 1073741824) :
    MutOK Try.prog 86 [.row 0, di k] 1 [(0, nestE l)] (di (k + (sumN l : Nat))) 1 [(0, .nest 56 2 1 l.length (lenF l) (nestMk l k) [])] := by
  refine mut_fn_of lv86 Try.func86 rfl rfl (by kernel_rfl) rfl [] ?_
  refine ⟨{ i : Nat // i ≤ l.length }, fun i => ⟨frL [(0, .row 0), (1, di (offK l k i.1)), (5, di i.1)], hpL [(0, .nest 56 2 1 l.length (lenF l) (fun j => if j < i.1 then nestMk l k j else inF l j) [])], 1, 1⟩, fun i => l.length - i.1, ⟨0, by omega⟩,
    le_of [] rfl rfl rfl rfl (tellHp_nest rfl rfl rfl (fun i hi => ⟨rfl, fun j hj => rfl⟩) tellHp_nil) (tellFr_row rfl rfl (tellFr_v rfl (congrArg (Value.int .i64) (?_ : k = offK l k 0)) (tellFr_v rfl rfl trivial))), ?_⟩
  · simp [offK, sumN]
  rintro ⟨i, hi⟩
  refine ask_intro trivial ?_
  refine bsplit_intro (fun h => ?_) (fun h => ?_)
  · have h : i < l.length := by simp at h; exact h
    have e1 := sumN_take l i h
    have e2 := sumN_le l i
    have e3 := sumN_get l i h
    refine ask_intro ⟨by omega, by show (i : Int) < (l.length : Int); omega⟩ ?_
    refine ask_intro (by show i < l.length; exact h) ?_
    have cm := (c_laws_markInt64S (l.getD i []) (offK l k i) (by omega) (by show 0 ≤ k + (sumN (l.take i) : Nat); omega) (by show k + (sumN (l.take i) : Nat) ≤ _; omega)).rows (hp0' := [(0, .row 2 1 (lenF l i) (if i < i then nestMk l k i else inF l i))]) ⟨rfl, ⟨rfl, rfl, rfl, fun j hj => by rw [if_neg (Nat.lt_irrefl i)]⟩, trivial⟩
    refine .inr ⟨rfl, use_mut ⟨_, _, _, _, _, _, rfl, rfl, cm, rfl, ?_⟩⟩
    refine ⟨⟨i + 1, by omega⟩, le_of [] rfl rfl rfl rfl (tellHp_hole rfl rfl rfl rfl rfl rfl ⟨rfl, fun j hj => ?_⟩ (fun j hj hne => ⟨rfl, fun q hq => ?_⟩) tellHp_nil) (tellFr_row rfl rfl (tellFr_v rfl (congrArg (Value.int .i64) (?_ : offK l k i + ((l.getD i []).length : Int) = offK l k (i + 1))) (tellFr_v rfl (congrArg (Value.int .i64) (?_ : IntKind.i64.wrap ((i : Int) + 1) = ((i + 1 : Nat) : Int))) trivial))), by show l.length - (i + 1) < l.length - i; omega⟩
    · show _ = (if i < i + 1 then nestMk l k i else inF l i) j
      rw [if_pos (by omega)]
    · show (if j < i then nestMk l k j else inF l j) q = (if j < i + 1 then nestMk l k j else inF l j) q
      have hne : j ≠ i := hne
      by_cases h2 : j < i
      · rw [if_pos h2, if_pos (by omega)]
      · rw [if_neg h2, if_neg (by omega)]
    · show k + (sumN (l.take i) : Nat) + ((l.getD i []).length : Int) = k + (sumN (l.take (i + 1)) : Nat)
      omega
    · exact wrap_i64 (i + 1) (by omega) (by omega)
  · simp at h
    have e : i = l.length := by omega
    subst e
    refine chk_intro (by kernel_rfl) ⟨tellV_v rfl ?_, tellHp_nest rfl rfl rfl (fun j hj => ⟨rfl, fun q hq => ?_⟩) tellHp_nil⟩
    · show Value.int .i64 (k + (sumN (l.take l.length) : Nat)) = _
      rw [List.take_length]
    · show (if j < l.length then nestMk l k j else inF l j) q = nestMk l k j q
      rw [if_pos hj]
end Go.Proofs.Ytdpahckfibnagaa.L

/- What the law functions compute that mark a policy: contracts. -/
set_option linter.unusedVariables false
set_option linter.unusedSimpArgs false
set_option maxRecDepth 100000
namespace Go.Proofs.Ytdpahckfibnagaa.L
open Go.RowKit
abbrev polRows (x : PolM) : List (Nat × Ent) := [(0, nestE x.own), (1, rowLane x.lns), (2, rowBell x.bls), (3, rowSlot x.pln)]
abbrev polK1 (x : PolM) (k : Int) : Int := k + (sumN x.own : Nat)
abbrev polK2 (x : PolM) (k : Int) : Int := polK1 x k + 5 * (x.lns.length : Int)
abbrev polK3 (x : PolM) (k : Int) : Int := polK2 x k + 2 * (x.bls.length : Int)
abbrev polK (x : PolM) (k : Int) : Int := polK3 x k + 2 * (x.pln.length : Int)
abbrev polMarks (x : PolM) (k : Int) : List (Nat × Ent) := [(0, .nest 56 2 1 x.own.length (lenF x.own) (nestMk x.own k) []), (1, .row 84 5 x.lns.length (laneMk (polK1 x k))), (2, .row 87 2 x.bls.length (bellMk (polK2 x k))), (3, .row 45 2 x.pln.length (slotMk (polK3 x k)))]
theorem polK_b (x : PolM) (k : Int) (hf : (x.size : Int) ≤ 1048576) (h1 : 0 ≤ k) (h2 : k ≤ 1073741824) : 0 ≤ polK x k ∧ polK x k ≤ k + 5242880 := by
  have e : x.size = x.own.length + sumN x.own + x.lns.length + x.bls.length + x.pln.length := rfl
  show 0 ≤ k + (sumN x.own : Nat) + 5 * (x.lns.length : Int) + 2 * (x.bls.length : Int) + 2 * (x.pln.length : Int) ∧ k + (sumN x.own : Nat) + 5 * (x.lns.length : Int) + 2 * (x.bls.length : Int) + 2 * (x.pln.length : Int) ≤ _
  omega
theorem c_laws_markPolicy (x : PolM) (k : Int) (hf : (x.size : Int) ≤ 1048576) (hk : 0 ≤ k) (hk2 : k ≤ 1073741824) :
    MutOK Try.prog 37 [.agg [.row 0, .row 1, .row 2, .row 3], di k] 4 (polRows x) (di (polK x k)) 4 (polMarks x k) := by
  have e : x.size = x.own.length + sumN x.own + x.lns.length + x.bls.length + x.pln.length := rfl
  have c1 := c_laws_markInt64SS x.own k (by omega) (by omega) hk hk2
  have c2 := c_laws_markLaneS x.lns (polK1 x k) (by omega) (by show 0 ≤ k + (sumN x.own : Nat); omega) (by show k + (sumN x.own : Nat) ≤ _; omega)
  have c3 := c_laws_markBellS x.bls (polK2 x k) (by omega) (by show 0 ≤ k + (sumN x.own : Nat) + 5 * (x.lns.length : Int); omega) (by show k + (sumN x.own : Nat) + 5 * (x.lns.length : Int) ≤ _; omega)
  have c4 := c_laws_markSlotS x.pln (polK3 x k) (by omega) (by show 0 ≤ k + (sumN x.own : Nat) + 5 * (x.lns.length : Int) + 2 * (x.bls.length : Int); omega) (by show k + (sumN x.own : Nat) + 5 * (x.lns.length : Int) + 2 * (x.bls.length : Int) ≤ _; omega)
  refine mut_fn_of lv37 Try.func37 rfl rfl (by kernel_rfl) rfl [] ?_
  refine .inr ⟨rfl, use_mut ⟨_, _, _, _, _, _, rfl, rfl, c1, rfl, ?_⟩⟩
  refine .inr ⟨rfl, use_mut ⟨_, _, _, _, _, _, rfl, rfl, c2, rfl, ?_⟩⟩
  refine .inr ⟨rfl, use_mut ⟨_, _, _, _, _, _, rfl, rfl, c3, rfl, ?_⟩⟩
  refine .inr ⟨rfl, use_mut ⟨_, _, _, _, _, _, rfl, rfl, c4, rfl, ?_⟩⟩
  exact chk_intro (by kernel_rfl) ⟨tellV_v rfl rfl, tellHp_nest rfl rfl rfl (fun j hj => ⟨rfl, fun q hq => rfl⟩) (tellHp_row rfl rfl rfl (fun j hj => rfl) (tellHp_row rfl rfl rfl (fun j hj => rfl) (tellHp_row rfl rfl rfl (fun j hj => rfl) tellHp_nil)))⟩
end Go.Proofs.Ytdpahckfibnagaa.L

/- The law function over the free pages answers true. -/
set_option linter.unusedVariables false
set_option linter.unusedSimpArgs false
set_option maxRecDepth 100000
namespace Go.Proofs.Ytdpahckfibnagaa.L
open Go.RowKit
set_option maxHeartbeats 1600000 in
theorem c_laws_FnExactFreePages (x0 : PolM) (ho_x0 : x0.ok) : FnOK Try.prog 10 [polLV x0] (rb true) := by
  have hs_x0 := ho_x0.small
  refine fn_of lv10 Try.func10 rfl rfl (by kernel_rfl) rfl ?_
  refine .inl ⟨_, _, rfl, c_laws_szPolicy x0 hs_x0 (1048576) (by omega) (by omega), rfl, ?_⟩
  refine bsplit_intro (fun h => ?_) (fun h => ?_)
  · exact ⟨⟨rfl, trivial⟩, rfl⟩
  have hf_x0 : (x0.size : Int) ≤ 1048576 := szP_of h
  have cs := c_spec_FreePages x0 hs_x0
  have ci := c_impl_FreePages x0 hs_x0
  have hf := freePages_few x0
  obtain ⟨p, hp⟩ : ∃ p, p = freePages x0 := ⟨_, rfl⟩
  rw [← hp] at cs ci hf
  have hkp : 0 ≤ 1 + (p.2.length : Int) := by omega
  have hk : ¬ 1 + (p.2.length : Int) < 0 := by omega
  have hb0 := polK_b x0 (1) hf_x0 (by omega) (by omega)
  refine .inl ⟨_, _, rfl, c_laws_toPolicy x0 hs_x0, rfl, ?_⟩
  repeat' (first | refine bsplit_true ?_ | refine bsplit_false ?_ | refine chk_intro (by kernel_rfl) ?_ | refine bsplit_of_false (by simp; done) ?_)
  refine .inl ⟨_, _, rfl, cs, rfl, ?_⟩
  repeat' (first | refine bsplit_true ?_ | refine bsplit_false ?_ | refine chk_intro (by kernel_rfl) ?_ | refine bsplit_of_false (by simp; done) ?_)
  refine .inl ⟨_, _, rfl, c_laws_toPolicy x0 hs_x0, rfl, ?_⟩
  repeat' (first | refine bsplit_true ?_ | refine bsplit_false ?_ | refine chk_intro (by kernel_rfl) ?_ | refine bsplit_of_false (by simp; done) ?_)
  refine .inl ⟨_, _, rfl, ci, rfl, ?_⟩
  repeat' (first | refine bsplit_true ?_ | refine bsplit_false ?_ | refine chk_intro (by kernel_rfl) ?_ | refine bsplit_of_false (by simp; done) ?_)
  refine .inl ⟨_, _, rfl, c_laws_eqIntsResult p p (by omega), rfl, ?_⟩
  repeat' (first | refine bsplit_true ?_ | refine bsplit_false ?_ | refine chk_intro (by kernel_rfl) ?_ | refine bsplit_of_false (by simp; done) ?_)
  refine .inl ⟨_, _, rfl, c_laws_toPolicy x0 hs_x0, rfl, ?_⟩
  repeat' (first | refine bsplit_true ?_ | refine bsplit_false ?_ | refine chk_intro (by kernel_rfl) ?_ | refine bsplit_of_false (by simp; done) ?_)
  refine .inl ⟨_, _, rfl, c_laws_eqPolicy x0 x0 hs_x0, rfl, ?_⟩
  repeat' (first | refine bsplit_true ?_ | refine bsplit_false ?_ | refine chk_intro (by kernel_rfl) ?_ | refine bsplit_of_false (by simp; done) ?_)
  refine .inr ⟨rfl, use_mut ⟨_, _, _, _, _, _, rfl, rfl, c_laws_markPolicy x0 (1) hf_x0 (by omega) (by omega), rfl, ?_⟩⟩
  repeat' (first | refine bsplit_true ?_ | refine bsplit_false ?_ | refine chk_intro (by kernel_rfl) ?_)
  try refine bsplit_of_false (decide_eq_false (show ¬ (polK x0 (1)) < 0 by have := hb0.1; omega)) ?_
  repeat' (first | refine bsplit_true ?_ | refine bsplit_false ?_ | refine chk_intro (by kernel_rfl) ?_ | refine bsplit_of_false (by simp; done) ?_)
  refine .inl ⟨_, _, rfl, c_laws_eqIntsResult p p (by omega), rfl, ?_⟩
  repeat' (first | refine bsplit_true ?_ | refine bsplit_false ?_ | refine chk_intro (by kernel_rfl) ?_ | refine bsplit_of_false (by simp; done) ?_)
  refine .inr ⟨rfl, use_mut ⟨_, _, _, _, _, _, rfl, rfl, c_laws_markIntsResult p 1 (by omega) (by omega) (by omega), rfl, ?_⟩⟩
  repeat' (first | refine bsplit_true ?_ | refine bsplit_false ?_ | refine chk_intro (by kernel_rfl) ?_)
  refine .inl ⟨_, _, rfl, c_laws_heldIntsResult p 1 (by omega) (by omega) (by omega), rfl, ?_⟩
  repeat' (first | refine bsplit_true ?_ | refine bsplit_false ?_ | refine chk_intro (by kernel_rfl) ?_)
  try refine bsplit_of_false (decide_eq_false hk) ?_
  repeat' (first | refine bsplit_true ?_ | refine bsplit_false ?_ | refine chk_intro (by kernel_rfl) ?_ | refine bsplit_of_false (by simp; done) ?_)
  refine .inl ⟨_, _, rfl, c_laws_toPolicy x0 hs_x0, rfl, ?_⟩
  repeat' (first | refine bsplit_true ?_ | refine bsplit_false ?_ | refine chk_intro (by kernel_rfl) ?_ | refine bsplit_of_false (by simp; done) ?_)
  refine .inl ⟨_, _, rfl, ci, rfl, ?_⟩
  repeat' (first | refine bsplit_true ?_ | refine bsplit_false ?_ | refine chk_intro (by kernel_rfl) ?_ | refine bsplit_of_false (by simp; done) ?_)
  refine .inl ⟨_, _, rfl, c_laws_eqIntsResult p p (by omega), rfl, ?_⟩
  repeat' (first | refine bsplit_true ?_ | refine bsplit_false ?_ | refine chk_intro (by kernel_rfl) ?_ | refine bsplit_of_false (by simp; done) ?_)
  refine .inl ⟨_, _, rfl, c_laws_heldIntsResult p 1 (by omega) (by omega) (by omega), rfl, ?_⟩
  repeat' (first | refine bsplit_true ?_ | refine bsplit_false ?_ | refine chk_intro (by kernel_rfl) ?_)
  try refine bsplit_of_false (decide_eq_false hk) ?_
  repeat' (first | refine bsplit_true ?_ | refine bsplit_false ?_ | refine chk_intro (by kernel_rfl) ?_ | refine bsplit_of_false (by simp; done) ?_)
  exact ⟨⟨rfl, trivial⟩, rfl⟩

end Go.Proofs.Ytdpahckfibnagaa.L

/- The law FnExactFreePages answers true at every input that its statement lets in. -/
set_option linter.unusedVariables false
set_option maxRecDepth 100000
namespace Go.Proofs.Ytdpahckfibnagaa.L.FnExactFreePages
open Go.RowKit Go.ChangeShapes Go.WideShapes Go.ChangeAt
theorem lifted (os : Os) (started : os.Started) (H : Type) (enc : TypeId × Value → H) :
    ReturnsInHanded {} Try.checked os 10 .any (Rows.fnExactFreePagesSpec.pre6 enc Try.prog Try.f10 Rows.fnExactFreePagesRow.domain false) (Rows.fnExactFreePagesSpec.post enc Try.prog Try.f10 false true false false) := by
  refine returnsInHanded_of_change_sized (C := Try.checked) own started (by kernel_rfl) Try.func10
    (ChangeSpec.witness6 (enc := enc) (C := Try.checked) false ⟨#[], #[.agg #[.slice none 0 0, .slice none 0 0, .slice none 0 0, .slice none 0 0]], []⟩ 8 (by kernel_rfl) (by kernel_rfl) (by kernel_rfl) (by kernel_rfl)) ?_
  intro W base args ds gs before hval0 hW hcnd hsz0 _
  have hsz : (DataW.weightsEach Try.prog (Try.f10.params.toList ++ Rows.fnExactFreePagesSpec.plain.varTypes Try.prog) (ds ++ gs)).all (· ≤ reachBytes) = true := hsz0
  have hval : ∀ (j : Nat) t v, Try.f10.params[j]? = some t → args[j]? = some v → Value.okWide Try.prog W .any base t v := hval0
  have hW' := hW
  obtain ⟨p, q, hA0, hV, rfl, hfz, hnd⟩ := hW
  have hA : DataW.TrodAll enc Try.prog W 0 (fun _ => true) true Try.f10.params.toList args.toList ds p := hA0
  rw [Try.params10] at hA hval hsz
  obtain ⟨v0, vs0, d0, ds0, p0, q0, hargs, rfl, rfl, h0, r0⟩ := trodAll_cons hA
  obtain ⟨rfl, rfl, rfl⟩ := trodAll_nil r0
  obtain rfl : args = #[v0] := by cases args; simp_all
  obtain ⟨rfl, rfl⟩ := trodVars_none hV
  have hsm : ∀ k ∈ DataW.weightsEach Try.prog ([27] ++ Rows.fnExactFreePagesSpec.plain.varTypes Try.prog) ([d0] ++ []), k ≤ reachBytes := fun k hk => by simpa using List.all_eq_true.1 hsz k hk
  have k0 := h0
  have lt0 : ∀ x ∈ p0, x.block < W.heap.size := by obtain ⟨m, hm⟩ := k0; exact DataW.trod_lt m _ _ _ hm
  obtain ⟨m0, hm0, hvr0⟩ := reads_Policy.agg Try.underlying27 (hval 0 27 v0 rfl rfl) h0 (fun k hk => hsm k (DataW.weights_mem_each (j := 0) rfl rfl k hk))
  refine ((c_laws_FnExactFreePages m0 hm0).calls W (Mem W) [v0] (fun b hb => hb) rfl (fun j hj => ?_)).mono fun e W' ⟨v, he, bel, hrr⟩ => ?_
  · match j, hj with
    | 0, _ => exact hvr0
    | j + 1, hj => exact absurd hj (by simp)
  · obtain ⟨us, J, hl, rfl, hJ, hok, _, _⟩ := hrr.ex
    have h1 := hok 0 _ rfl
    have h2 : RV.val us (rb true) = .bool true := h1
    rw [h2] at he
    subst he
    exact ⟨_, rfl, _, _, _, [], _, [], hW', trodAll_mk1 (shut_bool Try.underlying4 _), (trodAll_cons_mk (Below.trod laidOut (by kernel_rfl) (of_decide_eq_true (by kernel_rfl)) k0 bel lt0) trodAll_mk0), rfl, bel.frame _, fun h => by cases h⟩
theorem over : Rows.fnExactFreePagesRow.holds Try.pinned (OpenSpec.ofChange Rows.fnExactFreePagesSpec) :=
  OpenClaim.holds_of_wide 10 Try.f10 rfl rfl rfl rfl rfl rfl rfl ⟨rfl, rfl, rfl, rfl, rfl⟩ rfl rfl rfl rfl rfl (by kernel_rfl) Try.func10 (by kernel_rfl)
    (of_decide_eq_true (by kernel_rfl)) (by unfold Func.isWrapper; first | (rw [if_pos (by decide +kernel)]; kernel_rfl) | (rw [if_neg (by decide +kernel)]; exact ⟨rfl, rfl⟩))
    (fun os started H enc _ => lifted os started H enc)
end Go.Proofs.Ytdpahckfibnagaa.L.FnExactFreePages
namespace Go.Proofs.Ytdpahckfibnagaa
theorem fnExactFreePages_holds : Rows.FnExactFreePagesSaid := L.FnExactFreePages.over
#print axioms fnExactFreePages_holds
end Go.Proofs.Ytdpahckfibnagaa
