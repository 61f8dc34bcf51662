/- The law FnExactLoadImages answers true at every input that its statement lets in. -/
import Derived.Test.YtojaakpnpdnbhaaMc
import Derived.Test.YtojaakpnpdnbhaaRows
import Derived.Test.YtojaakpnpdnbhaaZ1
/- The words of a guest: contracts. -/
set_option linter.unusedVariables false
set_option linter.unusedSimpArgs false
set_option maxRecDepth 100000
namespace Go.Proofs.Ytojaakpnpdnbhaa.L
open Go.RowKit
theorem c_impl_pagesOf (m ps : List Int) (hm : m.length ≤ 1048576) (hn : ps.length ≤ 1048576) (h : ∀ p ∈ ps, 0 ≤ p ∧ (p + 1) * 8 ≤ m.length) : FnOK Try.prog 95 [.d (ints m), .d (ints ps)] (.r (.one (oInts (wordsL m ps)))) := by
  refine fn_of lv95 Try.func95 rfl rfl (by kernel_rfl) rfl ?_
  refine ⟨{ i : Nat // i ≤ ps.length }, fun i => ⟨frL [(0, .d (ints m)), (5, .row 96), (9, .d (ints ps)), (10, di ps.length), (11, di i.1)], hpL [(96, rowE (wordsL m (ps.take i.1)))], 97, 0⟩, fun i => ps.length - i.1, ⟨0, by omega⟩,
    le_of [(96, 4096)] rfl rfl rfl rfl (tellHp_row rfl rfl (by simp [wordsL]) (fun j hj => absurd hj (by omega)) tellHp_nil) (tellFr_d rfl (DLe.refl _) (tellFr_row rfl rfl (tellFr_d rfl (DLe.refl _) (tellFr_v rfl rfl (tellFr_v rfl rfl trivial))))), ?_⟩
  rintro ⟨i, hi⟩
  refine bsplit_intro (fun hb => ?_) (fun hb => ?_)
  · have hb : i < ps.length := by simp at hb; exact hb
    have hpm : ps.getD i 0 ∈ ps := by simp [List.getD, List.getElem?_eq_getElem hb]
    have et : ps.take (i + 1) = ps.take i ++ [ps.getD i 0] := by rw [List.take_add_one]; simp [List.getD, List.getElem?_eq_getElem hb]
    have hlt := wordsL_len m (ps.take i) (fun q hq => h q (List.mem_of_mem_take hq))
    have ew : wordsL m (ps.take (i + 1)) = wordsL m (ps.take i) ++ pageW m (ps.getD i 0) := by rw [et]; simp [wordsL]
    obtain ⟨hp, hp2⟩ := h _ hpm
    have hpl := pageW_len m _ hp hp2
    have hlt2 : (wordsL m (ps.take i)).length ≤ 8388608 := by rw [hlt, List.length_take]; omega
    refine ask_intro ⟨by omega, by show (i : Int) < (ps.length : Int); omega, rfl⟩ ?_
    refine .inl ⟨_, _, rfl, c_impl_pageOf m (ps.getD i 0) hp (by omega) hp2, rfl, ?_⟩
    refine ask_intro ⟨by show ((wordsL m (ps.take i)).length + (pageW m (ps.getD i 0)).length) * 8 ≤ 140737488355328; omega, by show (wordsL m (ps.take i)).length + (pageW m (ps.getD i 0)).length ≤ 9223372036854775807; omega, fun j hj => rfl⟩ ?_
    refine ⟨⟨i + 1, by omega⟩, le_of [(96, 8417)] rfl rfl rfl rfl (tellHp_row rfl rfl ?_ (fun j hj => ?_) tellHp_nil) (tellFr_d rfl (DLe.refl _) (tellFr_row rfl rfl (tellFr_d rfl (DLe.refl _) (tellFr_v rfl rfl (tellFr_v rfl (congrArg (Value.int .i64) (wrap1 hb (by omega))) trivial))))), by show ps.length - (i + 1) < ps.length - i; omega⟩
    · show (wordsL m (ps.take i)).length + (pageW m (ps.getD i 0)).length = (wordsL m (ps.take (i + 1))).length
      rw [ew, List.length_append]
    · have hj : j < (wordsL m (ps.take i)).length + (pageW m (ps.getD i 0)).length := hj
      show upto (wordsL m (ps.take i)).length (intsF (wordsL m (ps.take i))) (intsF (pageW m (ps.getD i 0))) j = intsF (wordsL m (ps.take (i + 1))) j
      rw [ew]
      exact upto_app _ _ _ (fun q hq => rfl) j hj
  · simp at hb
    have e : i = ps.length := by omega
    subst e
    refine ⟨⟨⟨rfl, rfl, ?_, fun j hj => ⟨?_, rfl⟩⟩, trivial⟩, rfl⟩
    · show (wordsL m (ps.take ps.length)).length = _
      rw [List.take_length]
    · show intsF (wordsL m (ps.take ps.length)) j = _
      rw [List.take_length]
def wordsOf (x : PolM) (m : List Int) (g : Int) : Int × List Int := if askedG x g = 0 then (bif !wholeB m then (1, []) else (0, wordsL m (x.own.getD g.toNat []))) else (askedG x g, [])
theorem own_row {x : PolM} {g : Int} (h : askedG x g = 0) : 0 ≤ g ∧ g < x.own.length ∧ (x.own.getD g.toNat []).length ≤ 5 ∧ ∀ p ∈ x.own.getD g.toNat [], 0 ≤ p ∧ p ≤ 23 := by
  unfold askedG at h
  split at h
  · rename_i hp
    cases hb : guestB x.own.length g with
    | false => rw [hb] at h; simp at h
    | true =>
      have hg := inR_iff.1 (show inR g 0 ((x.own.length : Int) - 1) = true from hb)
      have ho : ownBad x.own = 0 := by
        unfold polFault at hp
        split at hp
        · assumption
        · rename_i e; exact absurd hp e
      have hf : firstNZ (x.own.map rowBad) = 0 := by
        unfold ownBad at ho
        cases hq : inR (x.own.length : Int) 1 3 with
        | false => rw [hq] at ho; simp at ho
        | true =>
          rw [hq] at ho
          have ho : (if firstNZ (x.own.map rowBad) = 0 then (bif dupS [] x.own.flatten then (6 : Int) else 0) else firstNZ (x.own.map rowBad)) = 0 := ho
          split at ho
          · assumption
          · rename_i e; exact absurd ho e
      have hi : g.toNat < x.own.length := by omega
      have hr := firstNZ_all hf (rowBad (x.own.getD g.toNat [])) (List.mem_map.2 ⟨_, by rw [getD_at _ hi]; exact List.getElem_mem hi, rfl⟩)
      refine ⟨hg.1, by omega, row_len hf hi, fun p hpm => ?_⟩
      unfold rowBad at hr
      cases hq : inR ((x.own.getD g.toNat []).length : Int) 1 5 with
      | false => rw [hq] at hr; simp at hr
      | true =>
        rw [hq] at hr
        cases ha : (x.own.getD g.toNat []).all in23 with
        | false => rw [ha] at hr; simp at hr
        | true => exact inR_iff.1 (List.all_eq_true.1 ha p hpm)
  · rename_i e; exact absurd h e
theorem whole_len {m : List Int} (h : wholeB m = true) : (m.length : Int) = 192 := by
  unfold wholeB at h
  rw [Bool.and_eq_true] at h
  simpa using h.2
theorem wordsOf_few (x : PolM) (m : List Int) (g : Int) : (wordsOf x m g).2.length ≤ 1048576 := by
  unfold wordsOf
  split
  · rename_i h
    obtain ⟨h1, h2, h3, h4⟩ := own_row h
    cases hw : wholeB m with
    | false => simp
    | true =>
      have hm := whole_len hw
      have := wordsL_len m (x.own.getD g.toNat []) (fun p hp => by have := h4 p hp; omega)
      show (wordsL m (x.own.getD g.toNat [])).length ≤ 1048576
      omega
  · simp
theorem c_spec_WordsOf (x : PolM) (hs : x.small) (m : List Int) (hm : m.length ≤ 1048576) (g : Int) : FnOK Try.prog 24 [polLV x, .d (ints m), di g] (.r (irsR (wordsOf x m g))) := by
  have c1 := c_spec_l6Asked x hs g
  have c2 := c_spec_l7Whole m hm
  have ow := @own_row x g
  have wl := @whole_len m
  obtain ⟨r, hr⟩ : ∃ r, r = wordsOf x m g := ⟨_, rfl⟩
  rw [← hr]
  unfold wordsOf at hr
  generalize askedG x g = e at *
  refine fn_of lv24 Try.func24 rfl rfl (by kernel_rfl) rfl ?_
  refine .inl ⟨_, _, rfl, c1, rfl, ?_⟩
  refine bsplit_intro (fun h => ?_) (fun h => ?_)
  · rw [if_neg (by simpa using h)] at hr
    subst hr
    exact ⟨⟨rfl, ⟨rfl, rfl⟩, trivial⟩, rfl⟩
  have h : e = 0 := by simpa using h
  rw [if_pos h] at hr
  obtain ⟨q1, q2, q3, q4⟩ := ow h
  refine .inl ⟨_, _, rfl, c2, rfl, ?_⟩
  refine bsplit_intro (fun h2 => ?_) (fun h2 => ?_)
  · rw [show (!wholeB m) = true from h2] at hr
    have hr : r = (1, []) := hr
    subst hr
    exact ⟨⟨rfl, ⟨rfl, rfl⟩, trivial⟩, rfl⟩
  rw [show (!wholeB m) = false from h2] at hr
  have hr : r = (0, wordsL m (x.own.getD g.toNat [])) := hr
  have hw := wl (by simpa using h2)
  subst hr
  refine ask_intro ⟨q1, q2, rfl⟩ ?_
  refine .inl ⟨_, _, rfl, c_spec_l7Words m (x.own.getD g.toNat []) hm (by omega) (fun p hp => by have := q4 p hp; omega), rfl, ?_⟩
  exact ⟨⟨rfl, ⟨rfl, rfl, rfl, fun j hj => ⟨rfl, rfl⟩⟩, trivial⟩, rfl⟩
theorem c_impl_WordsOf (x : PolM) (hs : x.small) (m : List Int) (hm : m.length ≤ 1048576) (g : Int) : FnOK Try.prog 26 [polLV x, .d (ints m), di g] (.r (irsR (wordsOf x m g))) := by
  have c1 := c_impl_guestFault x hs g
  have c2 := c_impl_isWhole m hm
  have ow := @own_row x g
  have wl := @whole_len m
  obtain ⟨r, hr⟩ : ∃ r, r = wordsOf x m g := ⟨_, rfl⟩
  rw [← hr]
  unfold wordsOf at hr
  generalize askedG x g = e at *
  refine fn_of lv26 Try.func26 rfl rfl (by kernel_rfl) rfl ?_
  refine .inl ⟨_, _, rfl, c1, rfl, ?_⟩
  refine bsplit_intro (fun h => ?_) (fun h => ?_)
  · rw [if_neg (by simpa using h)] at hr
    subst hr
    exact ⟨⟨rfl, ⟨rfl, rfl⟩, trivial⟩, rfl⟩
  have h : e = 0 := by simpa using h
  rw [if_pos h] at hr
  obtain ⟨q1, q2, q3, q4⟩ := ow h
  refine .inl ⟨_, _, rfl, c2, rfl, ?_⟩
  refine bsplit_intro (fun h2 => ?_) (fun h2 => ?_)
  · rw [show (!wholeB m) = true from h2] at hr
    have hr : r = (1, []) := hr
    subst hr
    exact ⟨⟨rfl, ⟨rfl, rfl⟩, trivial⟩, rfl⟩
  rw [show (!wholeB m) = false from h2] at hr
  have hr : r = (0, wordsL m (x.own.getD g.toNat [])) := hr
  have hw := wl (by simpa using h2)
  subst hr
  refine ask_intro ⟨q1, q2, rfl⟩ ?_
  refine .inl ⟨_, _, rfl, c_impl_pagesOf m (x.own.getD g.toNat []) hm (by omega) (fun p hp => by have := q4 p hp; omega), rfl, ?_⟩
  exact ⟨⟨rfl, ⟨rfl, rfl, rfl, fun j hj => ⟨rfl, rfl⟩⟩, trivial⟩, rfl⟩
end Go.Proofs.Ytojaakpnpdnbhaa.L

/- The pages of a guest: contracts. -/
set_option linter.unusedVariables false
set_option linter.unusedSimpArgs false
set_option maxRecDepth 100000
namespace Go.Proofs.Ytojaakpnpdnbhaa.L
open Go.RowKit
abbrev du (n : Int) : LV := .d (.v (.int .u64 n))
theorem c_bits_Mul64_18 : FnOK Try.prog 207 [du 1, du 8] (.tup [.one (.v (.int .u64 0)), .one (.v (.int .u64 8))]) := by
  refine fn_of lv207 Try.func207 rfl rfl (by kernel_rfl) rfl ?_
  repeat' (first | refine ask_intro (by decide) ?_ | refine bsplit_true ?_ | refine bsplit_false ?_)
  exact ⟨⟨rfl, rfl, trivial⟩, rfl⟩
theorem c_bits_Mul_18 : FnOK Try.prog 199 [du 1, du 8] (.tup [.one (.v (.int .u64 0)), .one (.v (.int .u64 8))]) := by
  refine fn_of lv199 Try.func199 rfl rfl (by kernel_rfl) rfl ?_
  repeat' (first | refine ask_intro (by decide) ?_ | refine bsplit_true ?_ | refine bsplit_false ?_)
  refine .inl ⟨_, _, rfl, c_bits_Mul64_18, rfl, ?_⟩
  exact ⟨⟨rfl, rfl, trivial⟩, rfl⟩
/-- so many of a page, what is behind them 0 -/
abbrev repF (p : PageM) (n : Nat) (i : Nat) : List D := if i < n then pageD p else [.v (.int .i64 0), .v (.int .i64 0)]
theorem c_slices_Repeat_Page (p : PageM) (f : Nat → List D) (hf : f 0 = pageD p) : FnOK Try.prog 161 [.d (.l 1 f), di 8] (.r (.one (.own 133 2 8 (fun _ => pageD p)))) := by
  refine fn_of lv161 Try.func161 rfl rfl (by kernel_rfl) rfl ?_
  repeat' (first | refine bsplit_true ?_ | refine bsplit_false ?_)
  refine .inl ⟨_, _, rfl, c_bits_Mul_18, rfl, ?_⟩
  repeat' (first | refine bsplit_true ?_ | refine bsplit_false ?_)
  refine ask_intro ⟨rfl, by decide, by decide, by decide⟩ ?_
  refine ask_intro (fun i hi => ?_) ?_
  · obtain rfl : i = 0 := by have h2 : i < 1 := hi; omega
    rw [hf]
    rfl
  refine ⟨{ i : Nat // 1 ≤ i ∧ i ≤ 8 }, fun i => ⟨frL [(7, .row 96), (8, di i.1)], hpL [(96, .row 133 2 8 (repF p i.1))], 97, 0⟩, fun i => 8 - i.1, ⟨1, by omega, by omega⟩,
    le_of [(96, 16448)] rfl rfl rfl rfl (tellHp_row rfl rfl rfl (fun j hj => ?_) tellHp_nil) (tellFr_row rfl rfl (tellFr_v rfl rfl trivial)), ?_⟩
  · show (if 0 ≤ j ∧ j < 0 + 1 then f (j - 0) else [.v (.int .i64 0), .v (.int .i64 0)]) = repF p 1 j
    by_cases h : j < 1
    · obtain rfl : j = 0 := by omega
      rw [if_pos (by omega)]
      simpa [repF] using hf
    · rw [if_neg (by omega)]
      simp only [repF, h, if_false]
  rintro ⟨i, h1, h2⟩
  by_cases h : i < 8
  · have e1 : (0 + (i : Int).toNat) - (0 + (0 : Int).toNat) = i := by simp
    have e2 : (0 + ((8 : Nat) : Int).toNat) - (0 + (i : Int).toNat) = 8 - i := by simp
    have hm : 1 ≤ Nat.min i (8 - i) ∧ Nat.min i (8 - i) ≤ 8 - i := ⟨Nat.le_min.2 ⟨h1, by omega⟩, Nat.min_le_right _ _⟩
    have hm2 : Nat.min i (8 - i) ≤ i := Nat.min_le_left _ _
    generalize hM : Nat.min i (8 - i) = M at hm hm2
    refine bsplit_of_true (decide_eq_true (show (i : Int) < ((8 : Nat) : Int) by omega)) ?_
    refine ask_intro ⟨by omega, by show (i : Int) ≤ ((8 : Nat) : Int); omega, by show ((0 : Nat) : Int) + ((8 : Nat) : Int) ≤ ((8 : Nat) : Int); omega, .inr rfl⟩ ?_
    refine ask_intro ⟨by omega, by omega, by show ((0 : Nat) : Int) + (i : Int) ≤ ((8 : Nat) : Int); omega, .inr rfl⟩ ?_
    refine ask_intro (fun j hj => ?_) ?_
    · show (repF p i (0 + (0 : Int).toNat + j)).length = 2
      simp only [repF]; split <;> rfl
    refine chk_intro (by kernel_rfl) ?_
    refine ⟨⟨i + M, by omega, by omega⟩, le_of [(96, 96)] rfl rfl rfl rfl (tellHp_row rfl rfl rfl (fun j hj => ?_) tellHp_nil) (tellFr_row rfl rfl (tellFr_v rfl (congrArg (Value.int .i64) ?_) trivial)), by show 8 - (i + M) < 8 - i; omega⟩
    · show (if 0 + (i : Int).toNat ≤ j ∧ j < 0 + (i : Int).toNat + Nat.min ((0 + (i : Int).toNat) - (0 + (0 : Int).toNat)) ((0 + ((8 : Nat) : Int).toNat) - (0 + (i : Int).toNat)) then repF p i (0 + (0 : Int).toNat + (j - (0 + (i : Int).toNat))) else repF p i j) = repF p (i + M) j
      rw [e1, e2, hM]
      simp only [Int.toNat_natCast, Nat.zero_add, Int.toNat_zero, repF]
      by_cases c1 : i ≤ j ∧ j < i + M
      · rw [if_pos c1, if_pos (by omega), if_pos (by omega)]
      · rw [if_neg c1]
        by_cases c2 : j < i
        · rw [if_pos c2, if_pos (by omega)]
        · rw [if_neg c2, if_neg (by omega)]
    · show IntKind.i64.wrap ((i : Int) + ((Nat.min ((0 + (i : Int).toNat) - (0 + (0 : Int).toNat)) ((0 + ((8 : Nat) : Int).toNat) - (0 + (i : Int).toNat)) : Nat) : Int)) = ((i + M : Nat) : Int)
      rw [e1, e2, hM]
      exact (wrap_i64 _ (by omega) (by omega)).trans (by omega)
  · refine bsplit_of_false (decide_eq_false (show ¬ (i : Int) < ((8 : Nat) : Int) by omega)) ?_
    obtain rfl : i = 8 := by omega
    refine ⟨⟨⟨rfl, rfl, rfl, fun j hj => ⟨?_, rfl⟩⟩, trivial⟩, rfl⟩
    show repF p 8 j = pageD p
    rw [repF, if_pos hj]
end Go.Proofs.Ytojaakpnpdnbhaa.L

/- What the functions compute that read pages out of words: contracts. -/
set_option linter.unusedVariables false
set_option linter.unusedSimpArgs false
set_option maxRecDepth 100000
namespace Go.Proofs.Ytojaakpnpdnbhaa.L
open Go.RowKit
abbrev pageR (p : PageM) : RV1 := .agg [.v (.int .i64 p.to), .v (.int .i64 p.kinds)]
theorem c_spec_l4None : FnOK Try.prog 160 [] (.r (pageR ⟨-1, 0⟩)) := by
  refine fn_of lv160 Try.func160 rfl rfl (by kernel_rfl) rfl ?_
  exact ⟨⟨rfl, rfl, trivial⟩, rfl⟩
theorem c_impl_nowhere : FnOK Try.prog 162 [] (.r (pageR ⟨-1, 0⟩)) := by
  refine fn_of lv162 Try.func162 rfl rfl (by kernel_rfl) rfl ?_
  exact ⟨⟨rfl, rfl, trivial⟩, rfl⟩
def entryP (w : Int) : PageM := bif (Int.tmod w 8 == 0) || decide (IntKind.i64.wrap (Int.tdiv w 8) ≥ 8) then ⟨-1, 0⟩ else ⟨IntKind.i64.wrap (Int.tdiv w 8), Int.tmod w 8⟩
abbrev pgsR (p : Int × List PageM) : RV1 := .agg [.v (.int .i64 p.1), oPages p.2]
abbrev pgsLV (p : Int × List PageM) : LV := .agg [di p.1, .d (pages p.2)]
def pagesFrom (l : List Int) : Int × List PageM := bif (l.length : Int) != 8 then (1, []) else bif !l.all isW then (3, []) else (0, l.map entryP)
theorem app_pages (l : List PageM) (p : PageM) (i : Nat) (h : i < l.length + 1) : upto l.length (pagesF l) (fun i => ([pageD p] : List (List D)).getD i []) i = pagesF (l ++ [p]) i := by
  unfold upto
  show _ = pageD ((l ++ [p]).getD i ⟨0, 0⟩)
  split
  · rename_i h; show pageD (l.getD i ⟨0, 0⟩) = _; simp [List.getD, List.getElem?_append, h]
  · have : i = l.length := by omega
    subst this
    simp [List.getD]
theorem one_len2 (p : PageM) (i : Nat) (hi : i < 1) : (([pageD p] : List (List D)).getD i []).length = 2 := by
  obtain rfl : i = 0 := by omega
  rfl
theorem take_mapG {α β : Type} (d : α) (f : α → β) (l : List α) (i : Nat) (h : i < l.length) : (l.map f).take i ++ [f (l.getD i d)] = (l.map f).take (i + 1) := by
  rw [List.take_add_one, List.getElem?_map, List.getElem?_eq_getElem h, getD_at d h]
  rfl
def rowOr (k : Nat) : Nat → LV
  | 0 => dv (.slice none 0 0)
  | _ + 1 => .row k
end Go.Proofs.Ytojaakpnpdnbhaa.L

/- The pages of a guest, as the host has them: contracts. -/
set_option linter.unusedVariables false
set_option linter.unusedSimpArgs false
set_option maxRecDepth 100000
namespace Go.Proofs.Ytojaakpnpdnbhaa.L
open Go.RowKit
def laneSet (g : Int) (out : List PageM) (l : LaneM) : List PageM := if l.to = g then (if l.frm = g then out.set l.af.toNat ⟨l.page, 3⟩ else out).set l.at_.toNat ⟨l.page, 1⟩ else if l.frm = g then out.set l.af.toNat ⟨l.page, 3⟩ else out
theorem laneSet_len (g : Int) (out : List PageM) (l : LaneM) : (laneSet g out l).length = out.length := by
  unfold laneSet
  split <;> split <;> simp
def ownS (l : List Int) (k : Nat) : List PageM := (l.take k).map (fun p => ⟨p, 7⟩) ++ List.replicate (8 - k) ⟨-1, 0⟩
theorem ownS_len (l : List Int) (k : Nat) (hk : k ≤ l.length) (h8 : k ≤ 8) : (ownS l k).length = 8 := by simp [ownS]; omega
theorem ownS_step (l : List Int) (k : Nat) (hk : k < l.length) (h8 : k < 8) : (ownS l k).set k ⟨l.getD k 0, 7⟩ = ownS l (k + 1) := by
  have hl : ((l.take k).map (fun p => (⟨p, 7⟩ : PageM))).length = k := by simp; omega
  have h8' : 8 - k = (8 - (k + 1)) + 1 := by omega
  unfold ownS
  rw [List.set_append_right _ _ (by omega), hl, Nat.sub_self, h8', List.replicate_succ, List.set_cons_zero, take_snoc 0 l k hk, List.map_append, List.append_assoc]
  rfl
def pagesP (x : PolM) (g : Int) : List PageM := x.lns.foldl (laneSet g) (ownS (x.own.getD g.toNat []) (x.own.getD g.toNat []).length)
theorem fold_len (g : Int) : ∀ (l : List LaneM) (S : List PageM), (l.foldl (laneSet g) S).length = S.length
  | [], S => rfl
  | m :: l, S => by rw [List.foldl_cons, fold_len g l, laneSet_len]
theorem pagesP_len {x : PolM} {g : Int} (h : (x.own.getD g.toNat []).length ≤ 5) : (pagesP x g).length = 8 := by
  unfold pagesP
  rw [fold_len, ownS_len _ _ (Nat.le_refl _) (by omega)]
theorem set_pagesF (S : List PageM) (i : Nat) (p : PageM) (hi : i < S.length) (j : Nat) : (if j = i then splice (pagesF S j) 0 [.v (.int .i64 p.to), .v (.int .i64 p.kinds)] else pagesF S j) = pagesF (S.set i p) j := by
  by_cases h : j = i
  · subst h
    rw [if_pos rfl]
    have e : (S.set j p).getD j ⟨0, 0⟩ = p := by simp [List.getD, hi]
    simp only [pagesF, e]
    rfl
  · rw [if_neg h]
    have e : (S.set i p).getD j ⟨0, 0⟩ = S.getD j ⟨0, 0⟩ := by simp [List.getD, List.getElem?_set_ne (Ne.symm h)]
    simp only [pagesF, e]
theorem none_get {r : List Int} (j : Nat) (hj : j < 8) : pagesF (ownS r 0) j = pageD ⟨-1, 0⟩ := by
  have e : (ownS r 0).getD j ⟨0, 0⟩ = ⟨-1, 0⟩ := by
    simp only [ownS, List.take_zero, List.map_nil, List.nil_append, Nat.sub_zero]
    simp only [List.getD, List.getElem?_replicate, if_pos hj, Option.getD_some]
  simp only [pagesF, e]
/-- the places of lanes in a policy that is right -/
def LnsOK (x : PolM) : Prop := ∀ m ∈ x.lns, (5 ≤ m.af ∧ m.af ≤ 6) ∧ (5 ≤ m.at_ ∧ m.at_ ≤ 6) ∧ (0 ≤ m.page ∧ m.page ≤ 23)
theorem lanesBad_ok {own : List (List Int)} : ∀ {l ahead : List LaneM}, lanesBad own ahead l = 0 → ∀ m ∈ l, (5 ≤ m.af ∧ m.af ≤ 6) ∧ (5 ≤ m.at_ ∧ m.at_ ≤ 6) ∧ (0 ≤ m.page ∧ m.page ≤ 23)
  | [], _, _, m, hm => by simp at hm
  | q :: l, ahead, h, m, hm => by
    simp only [lanesBad] at h
    have hb : laneBad own q ahead = 0 := by
      split at h
      · assumption
      · rename_i e; exact absurd h e
    rw [if_pos hb] at h
    rcases List.mem_cons.1 hm with rfl | hm
    · unfold laneBad at hb
      split at hb
      · cases h1 : inR m.page 0 23 with
        | false => rw [h1] at hb; simp at hb
        | true =>
          cases h2 : inR m.af 5 6 with
          | false => rw [h1, h2] at hb; simp at hb
          | true =>
            cases h3 : inR m.at_ 5 6 with
            | false => rw [h1, h2, h3] at hb; simp at hb
            | true => exact ⟨inR_iff.1 h2, inR_iff.1 h3, inR_iff.1 h1⟩
      · rename_i e; exact absurd hb e
    · exact lanesBad_ok h m hm
theorem lns_ok {x : PolM} (h : polFault x = 0) : LnsOK x := fun m hm => lanesBad_ok (pol_lanes h) m hm
set_option maxHeartbeats 1600000 in
theorem c_impl_Policy_pagesFor (x : PolM) (hs : x.small) (g : Int) (hg : 0 ≤ g) (hg2 : g < x.own.length) (h5 : (x.own.getD g.toNat []).length ≤ 5) (hl : LnsOK x) : FnOK Try.prog 97 [polP x, di g] (.r (.one (oPages (pagesP x g)))) := by
  have hsl := hs.lns
  have hV8 := pagesP_len h5
  obtain ⟨V, hV⟩ : ∃ V, V = pagesP x g := ⟨_, rfl⟩
  rw [← hV] at hV8 ⊢
  unfold pagesP at hV
  refine fn_of lv97 Try.func97 rfl rfl (by kernel_rfl) rfl ?_
  refine .inl ⟨_, _, rfl, c_impl_nowhere, rfl, ?_⟩
  refine .inl ⟨_, _, rfl, c_slices_Repeat_Page ⟨-1, 0⟩ _ rfl, rfl, ?_⟩
  refine ask_intro ⟨hg, hg2, rfl⟩ ?_
  refine ⟨{ i : Nat // i ≤ (x.own.getD g.toNat []).length }, fun i => ⟨frL [(0, polP x), (1, di g), (5, .row 96), (19, .d (ints (x.own.getD g.toNat []))), (20, di (x.own.getD g.toNat []).length), (21, di i.1)], hpL [(96, .row 133 2 8 (pagesF (ownS (x.own.getD g.toNat []) i.1)))], 97, 0⟩, fun i => (x.own.getD g.toNat []).length - i.1, ⟨0, by omega⟩,
    le_of [(96, 4160)] rfl rfl rfl rfl (tellHp_row rfl rfl rfl (fun j hj => (none_get j hj).symm) tellHp_nil) (tellFr_x rfl ⟨DLe.refl _, DLe.refl _, DLe.refl _, DLe.refl _, trivial⟩ (tellFr_v rfl rfl (tellFr_row rfl rfl (tellFr_d rfl (DLe.refl _) (tellFr_v rfl rfl (tellFr_v rfl rfl trivial)))))), ?_⟩
  rintro ⟨k, hk⟩
  by_cases hk2 : k < (x.own.getD g.toNat []).length
  · have est := ownS_step (x.own.getD g.toNat []) k hk2 (by omega)
    have esl := ownS_len (x.own.getD g.toNat []) k hk (by omega)
    refine bsplit_of_true (decide_eq_true (show (k : Int) < ((x.own.getD g.toNat []).length : Int) by omega)) ?_
    refine ask_intro ⟨by omega, by show (k : Int) < ((x.own.getD g.toNat []).length : Int); omega, rfl⟩ ?_
    refine ask_intro ⟨by omega, by show (k : Int) < ((8 : Nat) : Int); omega⟩ ?_
    refine ask_intro (by show k < 8; omega) ?_
    exact ⟨⟨k + 1, by omega⟩, le_of [(96, 96)] rfl rfl rfl rfl (tellHp_row rfl rfl rfl (fun j hj => (set_pagesF (ownS (x.own.getD g.toNat []) k) k ⟨(x.own.getD g.toNat []).getD k 0, 7⟩ (by omega) j).trans (by rw [est])) tellHp_nil) (tellFr_x rfl ⟨DLe.refl _, DLe.refl _, DLe.refl _, DLe.refl _, trivial⟩ (tellFr_v rfl rfl (tellFr_row rfl rfl (tellFr_d rfl (DLe.refl _) (tellFr_v rfl rfl (tellFr_v rfl (congrArg (Value.int .i64) (wrap1 hk2 (by omega))) trivial)))))), by show (x.own.getD g.toNat []).length - (k + 1) < (x.own.getD g.toNat []).length - k; omega⟩
  obtain rfl : k = (x.own.getD g.toNat []).length := by omega
  refine bsplit_of_false (decide_eq_false (show ¬ ((x.own.getD g.toNat []).length : Int) < ((x.own.getD g.toNat []).length : Int) by omega)) ?_
  refine ⟨{ p : Nat × List PageM // p.1 ≤ x.lns.length ∧ p.2.length = 8 ∧ V = (x.lns.drop p.1).foldl (laneSet g) p.2 }, fun p => ⟨frL [(1, di g), (5, .row 96), (35, .d (lanes x.lns)), (36, di x.lns.length), (37, di p.1.1)], hpL [(96, .row 133 2 8 (pagesF p.1.2))], 97, 0⟩, fun p => x.lns.length - p.1.1, ⟨(0, ownS (x.own.getD g.toNat []) (x.own.getD g.toNat []).length), by omega, ownS_len _ _ (Nat.le_refl _) (by omega), hV⟩,
    le_of [(96, 96)] rfl rfl rfl rfl (tellHp_row rfl rfl rfl (fun j hj => rfl) tellHp_nil) (tellFr_v rfl rfl (tellFr_row rfl rfl (tellFr_d rfl (DLe.refl _) (tellFr_v rfl rfl (tellFr_v rfl rfl trivial))))), ?_⟩
  rintro ⟨⟨k, S⟩, hk, hS, hall⟩
  simp only at hk hS hall
  by_cases hk2 : k < x.lns.length
  · rw [drop_consG ⟨0, 0, 0, 0, 0⟩ _ _ hk2, List.foldl_cons] at hall
    have hmem : x.lns.getD k ⟨0, 0, 0, 0, 0⟩ ∈ x.lns := by rw [getD_at _ hk2]; exact List.getElem_mem _
    obtain ⟨⟨a1, a2⟩, ⟨a3, a4⟩, _⟩ := hl _ hmem
    have hwr := congrArg (Value.int .i64) (wrap1 hk2 (by omega))
    have hl8 := laneSet_len g S (x.lns.getD k ⟨0, 0, 0, 0, 0⟩)
    have sp : ∀ (S : List PageM) (i : Nat) (p : PageM), S.length = 8 → i < 8 → ∀ j, (if j = i then splice (pagesF S j) 0 [.v (.int .i64 p.to), .v (.int .i64 p.kinds)] else pagesF S j) = pagesF (S.set i p) j := fun S i p h1 h2 j => set_pagesF S i p (by omega) j
    by_cases c1 : (x.lns.getD k ⟨0, 0, 0, 0, 0⟩).frm = g <;> by_cases c2 : (x.lns.getD k ⟨0, 0, 0, 0, 0⟩).to = g
    · have hstep : laneSet g S (x.lns.getD k ⟨0, 0, 0, 0, 0⟩) = (S.set (x.lns.getD k ⟨0, 0, 0, 0, 0⟩).af.toNat ⟨(x.lns.getD k ⟨0, 0, 0, 0, 0⟩).page, 3⟩).set (x.lns.getD k ⟨0, 0, 0, 0, 0⟩).at_.toNat ⟨(x.lns.getD k ⟨0, 0, 0, 0, 0⟩).page, 1⟩ := by unfold laneSet; rw [if_pos c2, if_pos c1]
      rw [hstep] at hall hl8
      have sp2 : ∀ j, (if j = (x.lns.getD k ⟨0, 0, 0, 0, 0⟩).at_.toNat then splice (if j = (x.lns.getD k ⟨0, 0, 0, 0, 0⟩).af.toNat then splice (pagesF S j) 0 [.v (.int .i64 (x.lns.getD k ⟨0, 0, 0, 0, 0⟩).page), .v (.int .i64 3)] else pagesF S j) 0 [.v (.int .i64 (x.lns.getD k ⟨0, 0, 0, 0, 0⟩).page), .v (.int .i64 1)] else if j = (x.lns.getD k ⟨0, 0, 0, 0, 0⟩).af.toNat then splice (pagesF S j) 0 [.v (.int .i64 (x.lns.getD k ⟨0, 0, 0, 0, 0⟩).page), .v (.int .i64 3)] else pagesF S j) = pagesF ((S.set (x.lns.getD k ⟨0, 0, 0, 0, 0⟩).af.toNat ⟨(x.lns.getD k ⟨0, 0, 0, 0, 0⟩).page, 3⟩).set (x.lns.getD k ⟨0, 0, 0, 0, 0⟩).at_.toNat ⟨(x.lns.getD k ⟨0, 0, 0, 0, 0⟩).page, 1⟩) j := fun j => by
        rw [sp S (x.lns.getD k ⟨0, 0, 0, 0, 0⟩).af.toNat ⟨(x.lns.getD k ⟨0, 0, 0, 0, 0⟩).page, 3⟩ hS (by omega) j]
        exact sp _ (x.lns.getD k ⟨0, 0, 0, 0, 0⟩).at_.toNat ⟨(x.lns.getD k ⟨0, 0, 0, 0, 0⟩).page, 1⟩ (by simpa using hS) (by omega) j
      refine bsplit_of_true (decide_eq_true (show (k : Int) < (x.lns.length : Int) by omega)) ?_
      refine ask_intro ⟨by omega, by show (k : Int) < (x.lns.length : Int); omega, rfl⟩ ?_
      refine bsplit_of_true (beq_iff_eq.2 c1) ?_
      refine ask_intro ⟨by show 0 ≤ (x.lns.getD k ⟨0, 0, 0, 0, 0⟩).af; omega, by show (x.lns.getD k ⟨0, 0, 0, 0, 0⟩).af < ((8 : Nat) : Int); omega⟩ ?_
      refine ask_intro (by show (x.lns.getD k ⟨0, 0, 0, 0, 0⟩).af.toNat < 8; omega) ?_
      refine bsplit_of_true (beq_iff_eq.2 c2) ?_
      refine ask_intro ⟨by show 0 ≤ (x.lns.getD k ⟨0, 0, 0, 0, 0⟩).at_; omega, by show (x.lns.getD k ⟨0, 0, 0, 0, 0⟩).at_ < ((8 : Nat) : Int); omega⟩ ?_
      refine ask_intro (by show (x.lns.getD k ⟨0, 0, 0, 0, 0⟩).at_.toNat < 8; omega) ?_
      exact ⟨⟨(k + 1, _), by show k + 1 ≤ _; omega, hl8.trans hS, hall⟩, le_of [(96, 96)] rfl rfl rfl rfl (tellHp_row rfl rfl rfl (fun j hj => sp2 j) tellHp_nil) (tellFr_v rfl rfl (tellFr_row rfl rfl (tellFr_d rfl (DLe.refl _) (tellFr_v rfl rfl (tellFr_v rfl hwr trivial))))), by show x.lns.length - (k + 1) < x.lns.length - k; omega⟩
    · have hstep : laneSet g S (x.lns.getD k ⟨0, 0, 0, 0, 0⟩) = S.set (x.lns.getD k ⟨0, 0, 0, 0, 0⟩).af.toNat ⟨(x.lns.getD k ⟨0, 0, 0, 0, 0⟩).page, 3⟩ := by unfold laneSet; rw [if_neg c2, if_pos c1]
      rw [hstep] at hall hl8
      refine bsplit_of_true (decide_eq_true (show (k : Int) < (x.lns.length : Int) by omega)) ?_
      refine ask_intro ⟨by omega, by show (k : Int) < (x.lns.length : Int); omega, rfl⟩ ?_
      refine bsplit_of_true (beq_iff_eq.2 c1) ?_
      refine ask_intro ⟨by show 0 ≤ (x.lns.getD k ⟨0, 0, 0, 0, 0⟩).af; omega, by show (x.lns.getD k ⟨0, 0, 0, 0, 0⟩).af < ((8 : Nat) : Int); omega⟩ ?_
      refine ask_intro (by show (x.lns.getD k ⟨0, 0, 0, 0, 0⟩).af.toNat < 8; omega) ?_
      refine bsplit_of_false (beq_eq_false_iff_ne.2 c2) ?_
      exact ⟨⟨(k + 1, _), by show k + 1 ≤ _; omega, hl8.trans hS, hall⟩, le_of [(96, 96)] rfl rfl rfl rfl (tellHp_row rfl rfl rfl (fun j hj => sp S (x.lns.getD k ⟨0, 0, 0, 0, 0⟩).af.toNat ⟨(x.lns.getD k ⟨0, 0, 0, 0, 0⟩).page, 3⟩ hS (by omega) j) tellHp_nil) (tellFr_v rfl rfl (tellFr_row rfl rfl (tellFr_d rfl (DLe.refl _) (tellFr_v rfl rfl (tellFr_v rfl hwr trivial))))), by show x.lns.length - (k + 1) < x.lns.length - k; omega⟩
    · have hstep : laneSet g S (x.lns.getD k ⟨0, 0, 0, 0, 0⟩) = S.set (x.lns.getD k ⟨0, 0, 0, 0, 0⟩).at_.toNat ⟨(x.lns.getD k ⟨0, 0, 0, 0, 0⟩).page, 1⟩ := by unfold laneSet; rw [if_pos c2, if_neg c1]
      rw [hstep] at hall hl8
      refine bsplit_of_true (decide_eq_true (show (k : Int) < (x.lns.length : Int) by omega)) ?_
      refine ask_intro ⟨by omega, by show (k : Int) < (x.lns.length : Int); omega, rfl⟩ ?_
      refine bsplit_of_false (beq_eq_false_iff_ne.2 c1) ?_
      refine bsplit_of_true (beq_iff_eq.2 c2) ?_
      refine ask_intro ⟨by show 0 ≤ (x.lns.getD k ⟨0, 0, 0, 0, 0⟩).at_; omega, by show (x.lns.getD k ⟨0, 0, 0, 0, 0⟩).at_ < ((8 : Nat) : Int); omega⟩ ?_
      refine ask_intro (by show (x.lns.getD k ⟨0, 0, 0, 0, 0⟩).at_.toNat < 8; omega) ?_
      exact ⟨⟨(k + 1, _), by show k + 1 ≤ _; omega, hl8.trans hS, hall⟩, le_of [(96, 96)] rfl rfl rfl rfl (tellHp_row rfl rfl rfl (fun j hj => sp S (x.lns.getD k ⟨0, 0, 0, 0, 0⟩).at_.toNat ⟨(x.lns.getD k ⟨0, 0, 0, 0, 0⟩).page, 1⟩ hS (by omega) j) tellHp_nil) (tellFr_v rfl rfl (tellFr_row rfl rfl (tellFr_d rfl (DLe.refl _) (tellFr_v rfl rfl (tellFr_v rfl hwr trivial))))), by show x.lns.length - (k + 1) < x.lns.length - k; omega⟩
    · have hstep : laneSet g S (x.lns.getD k ⟨0, 0, 0, 0, 0⟩) = S := by unfold laneSet; rw [if_neg c2, if_neg c1]
      rw [hstep] at hall hl8
      refine bsplit_of_true (decide_eq_true (show (k : Int) < (x.lns.length : Int) by omega)) ?_
      refine ask_intro ⟨by omega, by show (k : Int) < (x.lns.length : Int); omega, rfl⟩ ?_
      refine bsplit_of_false (beq_eq_false_iff_ne.2 c1) ?_
      refine bsplit_of_false (beq_eq_false_iff_ne.2 c2) ?_
      exact ⟨⟨(k + 1, S), by show k + 1 ≤ _; omega, hS, hall⟩, le_of [(96, 96)] rfl rfl rfl rfl (tellHp_row rfl rfl rfl (fun j hj => rfl) tellHp_nil) (tellFr_v rfl rfl (tellFr_row rfl rfl (tellFr_d rfl (DLe.refl _) (tellFr_v rfl rfl (tellFr_v rfl hwr trivial))))), by show x.lns.length - (k + 1) < x.lns.length - k; omega⟩
  obtain rfl : k = x.lns.length := by omega
  rw [List.drop_eq_nil_of_le (Nat.le_refl _)] at hall
  have hall : V = S := hall
  subst hall
  refine bsplit_of_false (decide_eq_false (show ¬ (x.lns.length : Int) < (x.lns.length : Int) by omega)) ?_
  exact ⟨⟨⟨rfl, rfl, hS.symm, fun j hj => ⟨rfl, rfl⟩⟩, trivial⟩, rfl⟩
end Go.Proofs.Ytojaakpnpdnbhaa.L

/- What the functions compute that draw a machine: contracts. -/
set_option linter.unusedVariables false
set_option linter.unusedSimpArgs false
set_option maxRecDepth 100000
namespace Go.Proofs.Ytojaakpnpdnbhaa.L
open Go.RowKit
structure HartM.drawn (m : HartM) : Prop where
  regs : m.regs.length = 16
  csr : m.csr.length = 11
  inp : m.inp.length ≤ 2
  out : m.out.length ≤ 40
abbrev hartN : List LV := [dv (.slice none 0 0), di 0, dv (.slice none 0 0), dv (.bool false), dv (.bool false), dv (.bool false), di 0, dv (.slice none 0 0), dv (.slice none 0 0)]
theorem setM_drawn {m : HartM} (h : m.drawn) (k w : Int) : (setM m k w).drawn := by
  obtain ⟨h1, h2, h3, h4⟩ := h
  unfold setM setCsrL
  (repeat' split) <;> exact ⟨by simpa using h1, by simpa using h2, by simpa using h3, by simpa using h4⟩
end Go.Proofs.Ytojaakpnpdnbhaa.L

/- What the functions compute that draw a machine with something bent: contracts. -/
set_option linter.unusedVariables false
set_option linter.unusedSimpArgs false
set_option maxRecDepth 100000
namespace Go.Proofs.Ytojaakpnpdnbhaa.L
open Go.RowKit
theorem drop_intsB (l : List Int) (k i : Nat) : intsF l (k + i) = intsF (l.drop k) i := by
  show [D.v (.int .i64 (l.getD (k + i) 0))] = [D.v (.int .i64 ((l.drop k).getD i 0))]
  simp [List.getD, List.getElem?_drop]
theorem HartM.drawn.small {m : HartM} (h : m.drawn) : m.small := by
  obtain ⟨h1, h2, h3, h4⟩ := h
  exact ⟨by omega, by omega, by omega, by omega⟩
end Go.Proofs.Ytojaakpnpdnbhaa.L

/- What the functions compute that draw a machine and what is done to it: contracts. -/
set_option linter.unusedVariables false
set_option linter.unusedSimpArgs false
set_option maxRecDepth 100000
namespace Go.Proofs.Ytojaakpnpdnbhaa.L
open Go.RowKit
abbrev hartSh (m : HartM) : RV1 := .agg [.sh (ints m.regs), .v (.int .i64 m.pc), .sh (ints m.csr), .v (.bool m.halted), .v (.bool m.waiting), .v (.bool m.rung), .v (.int .i64 m.done), .sh (ints m.inp), .sh (ints m.out)]
theorem c_laws_lwBig (c : List Int) (hc : c.length ≤ 9223372036854775807) : FnOK Try.prog 47 [.d (bytesD c)] (rb (decide ((c.length : Int) > 1048576))) := by
  refine fn_of lv47 Try.func47 rfl rfl (by kernel_rfl) rfl ?_
  exact ⟨⟨rfl, trivial⟩, rfl⟩
end Go.Proofs.Ytojaakpnpdnbhaa.L

/- Plain facts on machines: what it means that nothing is wrong with one, and what stays so when a number is set. -/
set_option linter.unusedVariables false
set_option linter.unusedSimpArgs false
set_option maxRecDepth 100000
namespace Go.Proofs.Ytojaakpnpdnbhaa.L
open Go.RowKit
structure HartM.right (m : HartM) : Prop where
  regs : m.regs.length = 16
  csr : m.csr.length = 11
  r0 : m.regs.getD 0 0 = 0
  wr : ∀ x ∈ m.regs, isW x = true
  wp : isW m.pc = true
  wc : ∀ x ∈ m.csr, isW x = true
  wi : ∀ x ∈ m.inp, isW x = true
  wo : ∀ x ∈ m.out, isW x = true
  inp : m.inp.length ≤ 40
  out : m.out.length ≤ 40
  done : inR m.done 0 1000000000 = true
  c0 : m.csr.getD 0 0 ≤ 3
  c7 : m.csr.getD 7 0 ≤ 7
  c10 : m.csr.getD 10 0 ≤ 8
  c6 : m.csr.getD 6 0 = 0
  c8 : m.csr.getD 8 0 = 0
theorem bif_zero {b : Bool} {x : Int} {n : Int} (h : (bif b then n else x) = 0) (hn : n ≠ 0) : b = false ∧ x = 0 := by cases b <;> simp_all
theorem hFault_right {m : HartM} (h : hFault m = 0) : m.right := by
  unfold hFault at h
  obtain ⟨h1, h⟩ := bif_zero h (by decide)
  obtain ⟨h2, h⟩ := bif_zero h (by decide)
  obtain ⟨h3, h⟩ := bif_zero h (by decide)
  obtain ⟨h4, h⟩ := bif_zero h (by decide)
  obtain ⟨h5, h⟩ := bif_zero h (by decide)
  simp only [Bool.or_eq_false_iff, bne_eq_false_iff_eq, Bool.not_eq_eq_eq_not, Bool.not_false, decide_eq_false_iff_not, List.all_eq_true] at h1 h2 h3 h4 h5
  exact ⟨by omega, by omega, h1.2.2, h2.1, h2.2.1, h2.2.2.1, h2.2.2.2.1, h2.2.2.2.2, by omega, by omega, h4, by omega, by omega, by omega, h5.2.2.2.1, h5.2.2.2.2⟩
theorem right_hFault {m : HartM} (h : m.right) : hFault m = 0 := by
  obtain ⟨h1, h2, h3, h4, h5, h6, h7, h8, h9, h10, h11, h12, h13, h14, h15, h16⟩ := h
  have a4 : m.regs.all isW = true := List.all_eq_true.2 h4
  have a6 : m.csr.all isW = true := List.all_eq_true.2 h6
  have a7 : m.inp.all isW = true := List.all_eq_true.2 h7
  have a8 : m.out.all isW = true := List.all_eq_true.2 h8
  have b1 : decide ((m.inp.length : Int) > 40) = false := by simp; omega
  have b2 : decide ((m.out.length : Int) > 40) = false := by simp; omega
  have b3 : decide (m.csr.getD 0 0 > 3) = false := by simp only [decide_eq_false_iff_not]; omega
  have b4 : decide (m.csr.getD 7 0 > 7) = false := by simp only [decide_eq_false_iff_not]; omega
  have b5 : decide (m.csr.getD 10 0 > 8) = false := by simp only [decide_eq_false_iff_not]; omega
  unfold hFault
  rw [h1, h2, h3, a4, h5, a6, a7, a8, b1, b2, h11, b3, b4, b5, h15, h16]
  rfl
theorem set_get (l : List Int) (i j : Nat) (v : Int) (hi : i < l.length) : (l.set i v).getD j 0 = if j = i then v else l.getD j 0 := by
  by_cases e : j = i
  · subst e; simp [List.getD, hi]
  · rw [if_neg e]; simp [List.getD, List.getElem?_set_ne (Ne.symm e)]
theorem mem_set_all {l : List Int} {i : Nat} {v : Int} {p : Int → Bool} (h : ∀ x ∈ l, p x = true) (hv : p v = true) : ∀ x ∈ l.set i v, p x = true := fun x hx => by
  rcases List.mem_or_eq_of_mem_set hx with h1 | rfl
  · exact h x h1
  · exact hv
theorem isW_iff {n : Int} : isW n = true ↔ 0 ≤ n ∧ n ≤ 4294967295 := by simp [isW, inR]
theorem setCsrL_right {m : HartM} (h : m.right) {k v : Int} (hk : 0 ≤ k) (hk2 : k ≤ 10) (hv : 0 ≤ v) (hv2 : v ≤ 4294967295) (a : k = 0 → v ≤ 3) (b : k = 7 → v ≤ 7) (c : k = 10 → v ≤ 8) (d : k ≠ 6) (e : k ≠ 8) : (setCsrL m k v).right := by
  obtain ⟨h1, h2, h3, h4, h5, h6, h7, h8, h9, h10, h11, h12, h13, h14, h15, h16⟩ := h
  have hi : k.toNat < m.csr.length := by omega
  unfold setCsrL
  refine ⟨h1, by simpa using h2, h3, h4, h5, mem_set_all h6 (isW_iff.2 ⟨hv, hv2⟩), h7, h8, h9, h10, h11, ?_, ?_, ?_, ?_, ?_⟩
  all_goals
    dsimp only
    rw [set_get _ _ _ _ hi]
    split <;> omega
theorem tmod_w (w n : Int) (hn : 0 < n) : 0 ≤ Int.tmod (wrapW w) n ∧ Int.tmod (wrapW w) n < n := tmod_in (wrapW_le w).1 hn
theorem setM_right {m : HartM} (h : m.right) (k w : Int) (hk : 0 ≤ k) (hk2 : k ≤ 10) : (setM m k w).right := by
  have a1 := wrapW_le w
  have a2 := tmod_w w 4 (by omega)
  have a3 := tmod_w w 8 (by omega)
  unfold setM
  split
  · exact setCsrL_right h hk hk2 (by omega) (by omega) (by omega) (by omega) (by omega) (by omega) (by omega)
  split
  · exact setCsrL_right h hk hk2 (by omega) (by omega) (by omega) (by omega) (by omega) (by omega) (by omega)
  split
  · exact setCsrL_right h hk hk2 (by split <;> omega) (by split <;> omega) (by omega) (by omega) (by intro _; split <;> omega) (by omega) (by omega)
  split
  · obtain ⟨h1, h2, h3, h4, h5, h6, h7, h8, h9, h10, h11, h12, h13, h14, h15, h16⟩ := h
    exact ⟨h1, h2, h3, h4, h5, h6, h7, h8, h9, h10, h11, h12, h13, h14, h15, h16⟩
  split
  · exact h
  · exact setCsrL_right h hk hk2 (by omega) (by omega) (by omega) (by omega) (by omega) (by omega) (by omega)
theorem setM_idem (m : HartM) (k w : Int) : setM (setM m k w) k w = setM m k w := by
  have set2 : ∀ v : Int, setCsrL (setCsrL m k v) k v = setCsrL m k v := fun v => by unfold setCsrL; simp [List.set_set]
  by_cases h0 : k = 0
  · simp only [setM, if_pos h0]; exact set2 _
  by_cases h7 : k = 7
  · simp only [setM, if_neg h0, if_pos h7]; exact set2 _
  by_cases h10 : k = 10
  · simp only [setM, if_neg h0, if_neg h7, if_pos h10]; exact set2 _
  by_cases h6 : k = 6
  · simp only [setM, if_neg h0, if_neg h7, if_neg h10, if_pos h6]
    cases m.rung <;> simp
  by_cases h8 : k = 8
  · simp only [setM, if_neg h0, if_neg h7, if_neg h10, if_neg h6, if_pos h8]
  · simp only [setM, if_neg h0, if_neg h7, if_neg h10, if_neg h6, if_neg h8]; exact set2 _
theorem setM_csr (m : HartM) (k w : Int) (hm : m.csr.length = 11) (hk : 0 ≤ k) (hk2 : k ≤ 10) (i : Int) (hi : 0 ≤ i) (hne : i ≠ k) : (setM m k w).csr.getD i.toNat 0 = m.csr.getD i.toNat 0 ∧ (setM m k w).done = m.done := by
  have st : ∀ v : Int, (setCsrL m k v).csr.getD i.toNat 0 = m.csr.getD i.toNat 0 ∧ (setCsrL m k v).done = m.done := fun v => by
    refine ⟨?_, rfl⟩
    show (m.csr.set k.toNat v).getD i.toNat 0 = _
    rw [set_get _ _ _ _ (by omega), if_neg (by omega)]
  unfold setM
  split
  · exact st _
  split
  · exact st _
  split
  · exact st _
  split
  · exact ⟨rfl, rfl⟩
  split
  · exact ⟨rfl, rfl⟩
  · exact st _
theorem getCsr_set (m : HartM) (k w : Int) (h : m.right) (hk : 0 ≤ k) (hk2 : k ≤ 10) (i : Int) (hi : 0 ≤ i) (hi2 : i ≤ 10) (hne : i ≠ k) (h6 : i ≠ 6) : getCsr (setM m k w) i = getCsr m i := by
  obtain ⟨e1, e2⟩ := setM_csr m k w h.csr hk hk2 i hi hne
  unfold getCsr csrOf
  rw [right_hFault h, right_hFault (setM_right h k w hk hk2), e1, e2, if_neg h6, if_neg h6]
theorem getCsr_right {m : HartM} (h : m.right) (i : Int) (hi : 0 ≤ i) (hi2 : i ≤ 10) : getCsr m i = (0, csrOf m i) := by
  unfold getCsr
  rw [if_pos (right_hFault h), if_pos (inR_iff.2 ⟨hi, hi2⟩)]
theorem setM_5 (m : HartM) (w : Int) (h : m.csr.length = 11) : csrOf (setM m 5 w) 5 = wrapW w := by
  show (if (5 : Int) = 6 then _ else if (5 : Int) = 8 then _ else _) = _
  rw [if_neg (by decide), if_neg (by decide)]
  show (m.csr.set 5 (wrapW w)).getD 5 0 = _
  rw [set_get _ _ _ _ (by omega), if_pos rfl]
theorem setM_8 (m : HartM) (w : Int) : csrOf (setM m 8 w) 8 = m.done := rfl
end Go.Proofs.Ytojaakpnpdnbhaa.L

/- What the functions compute that tell a guest's own view: contracts. -/
set_option linter.unusedVariables false
set_option linter.unusedSimpArgs false
set_option maxRecDepth 100000
namespace Go.Proofs.Ytojaakpnpdnbhaa.L
open Go.RowKit
theorem firstNZ_zero {l : List Int} (h : firstNZ l = 0) : ∀ x ∈ l, x = 0 := by
  induction l with
  | nil => intro x hx; simp at hx
  | cons a l ih =>
    simp only [firstNZ] at h
    split at h
    · rename_i h0
      intro x hx
      rcases List.mem_cons.1 hx with rfl | hx
      · exact h0
      · exact ih h x hx
    · rename_i h0
      exact absurd h h0
theorem pagesFault_ok {l : List PageM} {top : Int} (h : pagesFault l top = 0) : PgsOK l top := by
  unfold pagesFault at h
  obtain ⟨h1, h⟩ := bif_zero h (by decide)
  obtain ⟨h2, h⟩ := bif_zero h (by decide)
  refine ⟨by simp at h2; omega, fun p hp => ?_⟩
  have h3 := firstNZ_zero h _ (List.mem_map_of_mem hp)
  unfold pageBad at h3
  obtain ⟨h4, h3⟩ := bif_zero h3 (by decide)
  simp only [Bool.or_eq_false_iff, Bool.not_eq_eq_eq_not, Bool.not_false, inR_iff] at h4
  omega
structure MemOK (m : List Int) : Prop where
  pos : 0 < m.length
  le : m.length ≤ 192
  mod : m.length % 8 = 0
  word : ∀ x ∈ m, isW x = true
theorem memFault_ok {m : List Int} (h : memFault m = 0) : MemOK m := by
  unfold memFault at h
  obtain ⟨h1, h⟩ := bif_zero h (by decide)
  obtain ⟨h2, h⟩ := bif_zero h (by decide)
  simp only [Bool.or_eq_false_iff, bne_eq_false_iff_eq, beq_eq_false_iff_ne, decide_eq_false_iff_not] at h1
  have h3 : Int.tmod (m.length : Int) 8 = (m.length : Int) % 8 := Int.tmod_eq_emod_of_nonneg (by omega)
  rw [h3] at h1
  exact ⟨by omega, by omega, by omega, fun x hx => List.all_eq_true.1 (by simpa using h2) x hx⟩
abbrev pageTop (mem : List Int) : Int := IntKind.i64.wrap (Int.tdiv mem.length 8)
theorem pageTop_eq {mem : List Int} (h : MemOK mem) : pageTop mem * 8 = mem.length := by
  have h1 : Int.tdiv (mem.length : Int) 8 = (mem.length : Int) / 8 := Int.tdiv_eq_ediv_of_nonneg (by omega)
  have := h.mod
  have := h.le
  unfold pageTop
  rw [h1, wrap_i64 _ (by omega) (by omega)]
  omega
def stepF (m : HartM) (l : List PageM) (mem : List Int) : Int :=
  if hFault m = 0 then (if pagesFault l 24 = 0 then (bif (memFault mem != 0) || l.any (fun p => decide (p.to ≥ pageTop mem)) then 1 else 0) else pagesFault l 24) else hFault m
theorem firstNZ_two (a b : Int) : firstNZ [a, b] = if a = 0 then b else a := by
  simp only [firstNZ]
  split
  · split
    · rename_i h; exact h.symm
    · rfl
  · rfl
theorem stepF_any {l : List PageM} {mem : List Int} (hp : pagesFault l 24 = 0) (hm : memFault mem = 0) (i : Nat) (hi : i < l.length) :
    decide (IntKind.i64.wrap (IntKind.i64.wrap ((l.getD i ⟨0, 0⟩).to + 1) * 8) > (mem.length : Int)) = decide ((l.getD i ⟨0, 0⟩).to ≥ pageTop mem) := by
  have h1 := (pagesFault_ok hp).get (i := i) (by rw [← (pagesFault_ok hp).len]; exact hi)
  have h2 := pageTop_eq (memFault_ok hm)
  generalize (l.getD i ⟨0, 0⟩).to = t at *
  rw [wrap_i64 (t + 1) (by omega) (by omega), wrap_i64 _ (by omega) (by omega)]
  exact decide_eq_decide.2 (by omega)
def idPages : List PageM := (List.range 8).map fun (i : Nat) => (⟨(i : Int), 7⟩ : PageM)
def spaceM (m : HartM) (l : List PageM) (mem : List Int) : Int × List PageM :=
  if m.csr.getD 10 0 = 0 then (0, idPages) else
  bif (decide ((l.getD (m.csr.getD 10 0 - 1).toNat ⟨0, 0⟩).to < 0) || (andI (l.getD (m.csr.getD 10 0 - 1).toNat ⟨0, 0⟩).kinds 1 == 0)) || (m.csr.getD 10 0 == 8) then (7, []) else (0, (pageW mem (l.getD (m.csr.getD 10 0 - 1).toNat ⟨0, 0⟩).to).map entryP)
/-- a machine over a memory with which nothing is wrong -/
structure StepOK (m : HartM) (l : List PageM) (mem : List Int) : Prop where
  hart : m.right
  pgs : PgsOK l 24
  ram : MemOK mem
  top : ∀ p ∈ l, (p.to + 1) * 8 ≤ mem.length
theorem stepF_ok {m : HartM} {l : List PageM} {mem : List Int} (h : stepF m l mem = 0) : StepOK m l mem := by
  unfold stepF at h
  split at h
  · rename_i h0
    split at h
    · rename_i h1
      obtain ⟨h2, _⟩ := bif_zero h (by decide)
      simp only [Bool.or_eq_false_iff, bne_eq_false_iff_eq] at h2
      refine ⟨hFault_right h0, pagesFault_ok h1, memFault_ok h2.1, fun p hp => ?_⟩
      have h3 := List.any_eq_false.1 h2.2 p hp
      have h4 := pageTop_eq (memFault_ok h2.1)
      simp only [decide_eq_true_eq] at h3
      omega
    · rename_i h1; exact absurd h h1
  · rename_i h0; exact absurd h h0
theorem StepOK.table {m : HartM} {l : List PageM} {mem : List Int} (h : StepOK m l mem) : 0 ≤ m.csr.getD 10 0 ∧ m.csr.getD 10 0 ≤ 8 := by
  refine ⟨?_, h.hart.c10⟩
  rw [getD_at _ (by rw [h.hart.csr]; omega)]
  exact (isW_iff.1 (h.hart.wc _ (List.getElem_mem _))).1
theorem StepOK.page {m : HartM} {l : List PageM} {mem : List Int} (h : StepOK m l mem) {i : Nat} (hi : i < 8) : -1 ≤ (l.getD i ⟨0, 0⟩).to ∧ (l.getD i ⟨0, 0⟩).to < 24 ∧ ((l.getD i ⟨0, 0⟩).to + 1) * 8 ≤ mem.length := by
  have h1 := h.pgs.get hi
  refine ⟨h1.1, h1.2, ?_⟩
  rw [getD_at _ (by rw [h.pgs.len]; exact hi)]
  exact h.top _ (List.getElem_mem _)
theorem pagesFrom_page {mem : List Int} (hm : MemOK mem) {p : Int} (h0 : 0 ≤ p) (h : (p + 1) * 8 ≤ mem.length) : pagesFrom (pageW mem p) = (0, (pageW mem p).map entryP) := by
  have h8 := pageW_len mem p h0 h
  have hw : (pageW mem p).all isW = true := List.all_eq_true.2 (fun x hx => hm.word x (List.mem_of_mem_drop (List.mem_of_mem_take hx)))
  unfold pagesFrom
  rw [h8, hw]
  rfl
theorem id_get (i : Nat) (hi : i < 8) : idPages.take i ++ [⟨(i : Int), 7⟩] = idPages.take (i + 1) := by
  have : i = 0 ∨ i = 1 ∨ i = 2 ∨ i = 3 ∨ i = 4 ∨ i = 5 ∨ i = 6 ∨ i = 7 := by omega
  rcases this with rfl | rfl | rfl | rfl | rfl | rfl | rfl | rfl <;> rfl
abbrev busD (m : HartM) (l : List PageM) (mem : List Int) : List D := [pages l, ints mem, dI 0, ints m.regs, dI m.pc, ints m.csr, dB m.halted, dB m.waiting, dB m.rung, dI m.done, ints m.inp, ints m.out, dI 0]
theorem space_walk {m : HartM} {l : List PageM} {mem : List Int} (ok : StepOK m l mem) (h0 : 0 < m.csr.getD 10 0) :
    IntKind.i64.wrap (IntKind.i64.wrap (m.csr.getD 10 0 - 1) * 8) = (m.csr.getD 10 0 - 1) * 8 ∧ walkP l ((m.csr.getD 10 0 - 1) * 8) 1 = bif decide ((l.getD (m.csr.getD 10 0 - 1).toNat ⟨0, 0⟩).to < 0) || (andI (l.getD (m.csr.getD 10 0 - 1).toNat ⟨0, 0⟩).kinds 1 == 0) then -1 else (l.getD (m.csr.getD 10 0 - 1).toNat ⟨0, 0⟩).to * 8 := by
  have ht := ok.table
  have hin : inR ((m.csr.getD 10 0 - 1) * 8) 0 63 = true := inR_iff.2 ⟨by omega, by omega⟩
  have hd := div8 (a := (m.csr.getD 10 0 - 1) * 8) (by omega) (by omega)
  have e1 : Int.tdiv ((m.csr.getD 10 0 - 1) * 8) 8 = m.csr.getD 10 0 - 1 := by rw [Int.tdiv_eq_ediv_of_nonneg (by omega)]; omega
  have e2 : Int.tmod ((m.csr.getD 10 0 - 1) * 8) 8 = 0 := by rw [Int.tmod_eq_emod_of_nonneg (by omega)]; omega
  have ea : pageAt l ((m.csr.getD 10 0 - 1) * 8) = l.getD (m.csr.getD 10 0 - 1).toNat ⟨0, 0⟩ := by unfold pageAt; rw [hd.1, e1]
  have hw := fun h => (walk_get (at_ := (m.csr.getD 10 0 - 1) * 8) ok.pgs (by omega) hin h).1
  rw [ea, e2] at hw
  have ew : IntKind.i64.wrap (m.csr.getD 10 0 - 1) = m.csr.getD 10 0 - 1 := wrap_i64 _ (by omega) (by omega)
  refine ⟨by rw [ew, wrap_i64 _ (by omega) (by omega)], ?_⟩
  unfold walkP
  rw [hin, ea, e2]
  cases hb : decide ((l.getD (m.csr.getD 10 0 - 1).toNat ⟨0, 0⟩).to < 0) || (andI (l.getD (m.csr.getD 10 0 - 1).toNat ⟨0, 0⟩).kinds 1 == 0) with
  | true => rfl
  | false =>
    simp only [Bool.not_true, cond_false]
    rw [hw (of_decide_eq_false (Bool.or_eq_false_iff.1 hb).1)]
    omega
def spaceOf (m : HartM) (l : List PageM) (mem : List Int) : Int × List PageM := if stepF m l mem = 0 then spaceM m l mem else (stepF m l mem, [])
theorem spaceM_1 (m : HartM) (l : List PageM) (mem : List Int) : spaceM m l mem = (0, (spaceM m l mem).2) ∨ spaceM m l mem = (7, []) := by
  unfold spaceM
  split
  · exact .inl rfl
  · generalize (decide ((l.getD (m.csr.getD 10 0 - 1).toNat ⟨0, 0⟩).to < 0) || (andI (l.getD (m.csr.getD 10 0 - 1).toNat ⟨0, 0⟩).kinds 1 == 0) || (m.csr.getD 10 0 == 8)) = b
    cases b
    · exact .inl rfl
    · exact .inr rfl
theorem spaceM_len {m : HartM} {l : List PageM} {mem : List Int} (ok : StepOK m l mem) : (spaceM m l mem).2.length ≤ 8 := by
  unfold spaceM
  split
  · show idPages.length ≤ 8
    decide
  · generalize (decide ((l.getD (m.csr.getD 10 0 - 1).toNat ⟨0, 0⟩).to < 0) || (andI (l.getD (m.csr.getD 10 0 - 1).toNat ⟨0, 0⟩).kinds 1 == 0) || (m.csr.getD 10 0 == 8)) = b
    cases b
    · show ((pageW mem _).map entryP).length ≤ 8
      rw [List.length_map]
      unfold pageW
      rw [List.length_take]
      omega
    · simp
theorem spaceOf_few (m : HartM) (l : List PageM) (mem : List Int) : (spaceOf m l mem).2.length ≤ 8 := by
  unfold spaceOf
  split
  · rename_i h; exact spaceM_len (stepF_ok h)
  · simp
end Go.Proofs.Ytojaakpnpdnbhaa.L

/- What the law functions compute that mark pages: contracts. -/
set_option linter.unusedVariables false
set_option linter.unusedSimpArgs false
set_option maxRecDepth 100000
namespace Go.Proofs.Ytojaakpnpdnbhaa.L
open Go.RowKit
abbrev rowP (l : List PageM) : Ent := .row 133 2 l.length (pagesF l)
/-- pages that bear the numbers from k on -/
abbrev pageMk (k : Int) (j : Nat) : List D := [.v (.int .i64 (k + 2 * (j : Int))), .v (.int .i64 (k + 2 * (j : Int) + 1))]
theorem c_laws_markPageS (l : List PageM) (k : Int) (hl : l.length ≤ 1099511627776) (hk : 0 ≤ k) (hk2 : k ≤ 1099511627776) :
    MutOK Try.prog 69 [.row 0, di k] 1 [(0, rowP l)] (di (k + 2 * l.length)) 1 [(0, .row 133 2 l.length (pageMk k))] := by
  refine mut_fn_of lv69 Try.func69 rfl rfl (by kernel_rfl) rfl [] ?_
  refine ⟨{ i : Nat // i ≤ l.length }, fun i => ⟨frL [(0, .row 0), (1, di (k + 2 * (i.1 : Int))), (5, di i.1)], hpL [(0, .row 133 2 l.length fun j => if j < i.1 then pageMk k j else pagesF l j)], 1, 1⟩, fun i => l.length - i.1, ⟨0, by omega⟩,
    le_of [] rfl rfl rfl rfl (tellHp_row rfl rfl rfl (fun i hi => rfl) tellHp_nil) (tellFr_row rfl rfl (tellFr_v rfl (congrArg (Value.int .i64) (?_ : k = k + 2 * ((0 : Nat) : Int))) (tellFr_v rfl rfl trivial))), ?_⟩
  · omega
  rintro ⟨i, hi⟩
  refine bsplit_intro (fun h => ?_) (fun h => ?_)
  · have h : i < l.length := by simp at h; exact h
    have w1 : IntKind.i64.wrap (k + 2 * (i : Int) + 1) = k + 2 * (i : Int) + 1 := wrap_i64 _ (by omega) (by omega)
    refine ask_intro ⟨by omega, by simp; omega⟩ ?_
    refine ask_intro (by show i < l.length; exact h) ?_
    refine ask_intro ⟨by omega, by simp; omega⟩ ?_
    refine ask_intro (by show i < l.length; exact h) ?_
    refine ⟨⟨i + 1, by omega⟩, le_of [] rfl rfl rfl rfl (tellHp_row rfl rfl rfl (fun j hj => ?_) tellHp_nil) (tellFr_row rfl rfl (tellFr_v rfl (congrArg (Value.int .i64) (?_ : IntKind.i64.wrap (IntKind.i64.wrap (k + 2 * (i : Int) + 1) + 1) = k + 2 * ((i + 1 : Nat) : Int))) (tellFr_v rfl (congrArg (Value.int .i64) (?_ : IntKind.i64.wrap ((i : Int) + 1) = ((i + 1 : Nat) : Int))) trivial))), by show l.length - (i + 1) < l.length - i; omega⟩
    · show (if j = i then splice (if j = i then splice (if j < i then pageMk k j else pagesF l j) 0 [D.v (.int .i64 (k + 2 * (i : Int)))] else if j < i then pageMk k j else pagesF l j) 1 [D.v (.int .i64 (IntKind.i64.wrap (k + 2 * (i : Int) + 1)))] else if j = i then splice (if j < i then pageMk k j else pagesF l j) 0 [D.v (.int .i64 (k + 2 * (i : Int)))] else if j < i then pageMk k j else pagesF l j) = if j < i + 1 then pageMk k j else pagesF l j
      by_cases h1 : j = i
      · subst h1
        rw [if_pos rfl, if_pos rfl, if_neg (by omega), if_pos (by omega), w1]
        rfl
      · rw [if_neg h1, if_neg h1]
        by_cases h2 : j < i
        · rw [if_pos h2, if_pos (by omega)]
        · rw [if_neg h2, if_neg (by omega)]
    · rw [w1, wrap_i64 _ (by omega) (by omega)]; omega
    · exact wrap_i64 (i + 1) (by omega) (by omega)
  · simp at h
    have e : i = l.length := by omega
    subst e
    refine chk_intro (by kernel_rfl) ⟨tellV_v rfl rfl, tellHp_row rfl rfl rfl (fun j hj => ?_) tellHp_nil⟩
    show (if j < l.length then pageMk k j else pagesF l j) = pageMk k j
    rw [if_pos hj]
end Go.Proofs.Ytojaakpnpdnbhaa.L

/- What the law functions compute over results that bear pages: contracts. -/
set_option linter.unusedVariables false
set_option linter.unusedSimpArgs false
set_option maxRecDepth 100000
namespace Go.Proofs.Ytojaakpnpdnbhaa.L
open Go.RowKit
abbrev pagesM (l : List PageM) (k : Int) : D := .l l.length (pageMk k)
abbrev rowPM (l : List PageM) (k : Int) : Ent := .row 133 2 l.length (pageMk k)
theorem c_laws_heldPageS (l : List PageM) (k : Int) (hl : l.length ≤ 1099511627776) (hk : 0 ≤ k) (hk2 : k ≤ 1099511627776) : FnOK Try.prog 98 [.d (pagesM l k), di k] (ri (k + 2 * l.length)) := by
  refine fn_of lv98 Try.func98 rfl rfl (by kernel_rfl) rfl ?_
  refine ⟨{ i : Nat // i ≤ l.length }, fun i => ⟨frL [(0, .d (pagesM l k)), (1, di (k + 2 * (i.1 : Int))), (5, di i.1)], hpL [], 0, 0⟩, fun i => l.length - i.1, ⟨0, by omega⟩,
    le_of [] rfl rfl rfl rfl trivial (tellFr_d rfl (DLe.refl _) (tellFr_v rfl (congrArg (Value.int .i64) (show k = k + 2 * ((0 : Nat) : Int) by omega)) (tellFr_v rfl rfl trivial))), ?_⟩
  rintro ⟨i, hi⟩
  refine bsplit_intro (fun h => ?_) (fun h => ?_)
  · have h : i < l.length := by simp at h; exact h
    have w1 : IntKind.i64.wrap (k + 2 * (i : Int) + 1) = k + 2 * (i : Int) + 1 := wrap_i64 _ (by omega) (by omega)
    have w2 : IntKind.i64.wrap (k + 2 * (i : Int) + 1 + 1) = k + 2 * ((i + 1 : Nat) : Int) := by rw [wrap_i64 _ (by omega) (by omega)]; omega
    refine ask_intro ⟨by omega, by simp; omega, rfl⟩ ?_
    refine bsplit_of_false (show (k + 2 * (i : Int) != k + 2 * (i : Int)) = false by simp) ?_
    refine ask_intro ⟨by omega, by simp; omega, rfl⟩ ?_
    refine bsplit_of_false (show (k + 2 * (i : Int) + 1 != IntKind.i64.wrap (k + 2 * (i : Int) + 1)) = false by rw [w1]; simp) ?_
    exact ⟨⟨i + 1, by omega⟩, le_of [] rfl rfl rfl rfl trivial (tellFr_d rfl (DLe.refl _) (tellFr_v rfl (congrArg (Value.int .i64) (by rw [w1, w2])) (tellFr_v rfl (congrArg (Value.int .i64) (wrap_i64 (i + 1) (by omega) (by omega) : IntKind.i64.wrap ((i : Int) + 1) = ((i + 1 : Nat) : Int))) trivial))), by show l.length - (i + 1) < l.length - i; omega⟩
  · simp at h
    have e : i = l.length := by omega
    subst e
    exact ⟨⟨rfl, trivial⟩, rfl⟩
theorem c_laws_eqPagesResult (p q : Int × List PageM) (hs : p.2.length ≤ 9223372036854775807) : FnOK Try.prog 34 [pgsLV p, pgsLV q] (rb (decide (p = q))) := by
  refine fn_of lv34 Try.func34 rfl rfl (by kernel_rfl) rfl ?_
  repeat' (first | refine bsplit_true ?_ | refine bsplit_false ?_ | refine .inl ⟨_, _, rfl, c_laws_eqPageS p.2 q.2 hs, rfl, ?_⟩ | refine bsplit_intro (fun h => ?_) (fun h => ?_))
  all_goals refine ⟨⟨congrArg Value.bool ?_, trivial⟩, rfl⟩
  all_goals (obtain ⟨a1, a2⟩ := p; obtain ⟨b1, b2⟩ := q; simp_all)
theorem c_laws_markPagesResult (p : Int × List PageM) (k : Int) (hf : p.2.length ≤ 1099511627776) (hk : 0 ≤ k) (hk2 : k ≤ 1099511627776) : MutOK Try.prog 35 [.agg [di p.1, .row 0], di k] 1 [(0, rowP p.2)] (di (k + 2 * p.2.length)) 1 [(0, rowPM p.2 k)] := by
  refine mut_fn_of lv35 Try.func35 rfl rfl (by kernel_rfl) rfl [] ?_
  refine .inr ⟨rfl, use_mut ⟨_, _, _, _, _, _, rfl, rfl, c_laws_markPageS p.2 k hf hk hk2, rfl, ?_⟩⟩
  exact chk_intro (by kernel_rfl) ⟨tellV_v rfl rfl, tellHp_row rfl rfl rfl (fun j hj => rfl) tellHp_nil⟩
theorem c_laws_heldPagesResult (p : Int × List PageM) (k : Int) (hf : p.2.length ≤ 1099511627776) (hk : 0 ≤ k) (hk2 : k ≤ 1099511627776) : FnOK Try.prog 36 [.agg [di p.1, .d (pagesM p.2 k)], di k] (ri (k + 2 * p.2.length)) := by
  refine fn_of lv36 Try.func36 rfl rfl (by kernel_rfl) rfl ?_
  refine .inl ⟨_, _, rfl, c_laws_heldPageS p.2 k hf hk hk2, rfl, ?_⟩
  refine bsplit_of_false (decide_eq_false (show ¬ k + 2 * (p.2.length : Int) < 0 by omega)) ?_
  exact ⟨⟨rfl, trivial⟩, rfl⟩
end Go.Proofs.Ytojaakpnpdnbhaa.L

/- The law function over a machine that goes back from a trap answers true. -/
set_option linter.unusedVariables false
set_option linter.unusedSimpArgs false
set_option maxRecDepth 100000
namespace Go.Proofs.Ytojaakpnpdnbhaa.L
open Go.RowKit
theorem backHart_few (m : HartM) (hf : m.few) (hs : m.small) : (backHart m).2.few ∧ (backHart m).2.small := by
  unfold backHart
  split
  · exact ⟨⟨hf.regs, by simpa [backM] using hf.csr, hf.inp, hf.out⟩, ⟨hs.regs, by simpa [backM] using hs.csr, hs.inp, hs.out⟩⟩
  · exact hartZ_few
end Go.Proofs.Ytojaakpnpdnbhaa.L

/- The law functions over a machine that is fed answer true. -/
set_option linter.unusedVariables false
set_option linter.unusedSimpArgs false
set_option maxRecDepth 100000
namespace Go.Proofs.Ytojaakpnpdnbhaa.L
open Go.RowKit
theorem hK_b (m : HartM) (k : Int) (hf : m.few) (h1 : 0 ≤ k) (h2 : k ≤ 1048576) : 0 ≤ hK4 m k ∧ hK4 m k ≤ k + 4194304 := by
  obtain ⟨b1, b2, b3, b4⟩ := hf
  unfold hK4 hK3 hK2 hK1
  omega
theorem ints_b (l : List Int) (k : Int) (hf : l.length ≤ 1048576) (h1 : 0 ≤ k) (h2 : k ≤ 1099511627776) : 0 ≤ k + l.length ∧ k + l.length ≤ k + 1048576 := by omega
theorem feedHart_few (m : HartM) (hf : m.few) (hs : m.small) (l : List Int) (hl : l.length ≤ 1048576) : (feedHart m l).2.few ∧ (feedHart m l).2.small := by
  unfold feedHart
  split
  · cases h1 : (!l.all isW)
    · cases h2 : decide ((m.inp.length : Int) + l.length > 40)
      · have h2 : ¬ ((m.inp.length : Int) + l.length > 40) := by simpa using h2
        have e : (m.inp ++ l).length = m.inp.length + l.length := by simp
        exact ⟨⟨hf.regs, hf.csr, by show (m.inp ++ l).length ≤ _; omega, hf.out⟩, ⟨hs.regs, hs.csr, by show (m.inp ++ l).length * 8 ≤ _; omega, hs.out⟩⟩
      · exact hartZ_few
    · exact hartZ_few
  · exact hartZ_few
end Go.Proofs.Ytojaakpnpdnbhaa.L

/- The law functions over a guest's own view answer true. -/
set_option linter.unusedVariables false
set_option linter.unusedSimpArgs false
set_option maxRecDepth 100000
namespace Go.Proofs.Ytojaakpnpdnbhaa.L
open Go.RowKit
abbrev okPages (l : List PageM) : Prop := l.length * 16 ≤ reachBytes ∧ ∀ x ∈ l, ok64 x.to ∧ ok64 x.kinds
theorem szq_of {q : Int} {n : Nat} (h : decide ((if q - (n : Int) < 0 then -1 else q - (n : Int)) < 0) = false) : (n : Int) ≤ q := by
  have := of_decide_eq_false h
  split at this <;> omega
theorem len2_b {α : Type} (l : List α) (k : Int) (hf : l.length ≤ 1048576) (h1 : 0 ≤ k) (h2 : k ≤ 1073741824) : 0 ≤ k + 2 * (l.length : Int) ∧ k + 2 * (l.length : Int) ≤ k + 2097152 := by omega
end Go.Proofs.Ytojaakpnpdnbhaa.L

/- The pages of a guest, as the reference has them: contracts. -/
set_option linter.unusedVariables false
set_option linter.unusedSimpArgs false
set_option maxRecDepth 100000
namespace Go.Proofs.Ytojaakpnpdnbhaa.L
open Go.RowKit
abbrev nonesL (k : Nat) : List PageM := List.replicate k ⟨-1, 0⟩
theorem nones_step (k : Nat) : nonesL k ++ [⟨-1, 0⟩] = nonesL (k + 1) := by rw [nonesL, nonesL, List.replicate_succ']
set_option maxHeartbeats 1600000 in
theorem c_spec_l7Pages (x : PolM) (hs : x.small) (g : Int) (hg : 0 ≤ g) (hg2 : g < x.own.length) (h5 : (x.own.getD g.toNat []).length ≤ 5) (hl : LnsOK x) : FnOK Try.prog 96 [polP x, di g] (.r (.one (oPages (pagesP x g)))) := by
  have hsl := hs.lns
  have hV8 := pagesP_len h5
  obtain ⟨V, hV⟩ : ∃ V, V = pagesP x g := ⟨_, rfl⟩
  rw [← hV] at hV8 ⊢
  unfold pagesP at hV
  refine fn_of lv96 Try.func96 rfl rfl (by kernel_rfl) rfl ?_
  refine ⟨{ i : Nat // i ≤ 8 }, fun i => ⟨frL [(0, polP x), (1, di g), (5, .row 96), (6, di i.1)], hpL [(96, .row 133 2 i.1 (pagesF (nonesL i.1)))], 97, 0⟩, fun i => 8 - i.1, ⟨0, by omega⟩,
    le_of [(96, 4096)] rfl rfl rfl rfl (tellHp_row rfl rfl rfl (fun j hj => absurd hj (Nat.not_lt_zero _)) tellHp_nil) (tellFr_x rfl ⟨DLe.refl _, DLe.refl _, DLe.refl _, DLe.refl _, trivial⟩ (tellFr_v rfl rfl (tellFr_row rfl rfl (tellFr_v rfl rfl trivial)))), ?_⟩
  rintro ⟨k, hk⟩
  by_cases hk2 : k < 8
  · have hwr := congrArg (Value.int .i64) (wrap1 hk2 (by omega))
    have hap := fun j (hj : j < k + 1) => app_pages (nonesL k) ⟨-1, 0⟩ j (by simpa using hj)
    rw [List.length_replicate, nones_step] at hap
    refine bsplit_of_true (decide_eq_true (show (k : Int) < 8 by omega)) ?_
    refine .inl ⟨_, _, rfl, c_spec_l4None, rfl, ?_⟩
    refine ask_intro ⟨by show (k + 1) * 16 ≤ 140737488355328; omega, by show k + 1 ≤ 9223372036854775807; omega, one_len2 ⟨-1, 0⟩⟩ ?_
    exact ⟨⟨k + 1, by omega⟩, le_of [(96, 4289)] rfl rfl rfl rfl (tellHp_row rfl rfl rfl (fun j hj => hap j hj) tellHp_nil) (tellFr_x rfl ⟨DLe.refl _, DLe.refl _, DLe.refl _, DLe.refl _, trivial⟩ (tellFr_v rfl rfl (tellFr_row rfl rfl (tellFr_v rfl hwr trivial)))), by show 8 - (k + 1) < 8 - k; omega⟩
  obtain rfl : k = 8 := by omega
  refine bsplit_of_false (decide_eq_false (show ¬ ((8 : Nat) : Int) < 8 by omega)) ?_
  refine ⟨{ i : Nat // i ≤ (x.own.getD g.toNat []).length }, fun i => ⟨frL [(0, polP x), (1, di g), (5, .row 96), (7, di i.1)], hpL [(96, .row 133 2 8 (pagesF (ownS (x.own.getD g.toNat []) i.1)))], 97, 0⟩, fun i => (x.own.getD g.toNat []).length - i.1, ⟨0, by omega⟩,
    le_of [(96, 96)] rfl rfl rfl rfl (tellHp_row rfl rfl rfl (fun j hj => rfl) tellHp_nil) (tellFr_x rfl ⟨DLe.refl _, DLe.refl _, DLe.refl _, DLe.refl _, trivial⟩ (tellFr_v rfl rfl (tellFr_row rfl rfl (tellFr_v rfl rfl trivial)))), ?_⟩
  rintro ⟨k, hk⟩
  by_cases hk2 : k < (x.own.getD g.toNat []).length
  · have est := ownS_step (x.own.getD g.toNat []) k hk2 (by omega)
    have esl := ownS_len (x.own.getD g.toNat []) k hk (by omega)
    have hwr := congrArg (Value.int .i64) (wrap1 hk2 (by omega))
    refine ask_intro ⟨hg, hg2, rfl⟩ ?_
    refine bsplit_of_true (decide_eq_true (show (k : Int) < ((x.own.getD g.toNat []).length : Int) by omega)) ?_
    refine ask_intro ⟨hg, hg2, rfl⟩ ?_
    refine ask_intro ⟨by omega, by show (k : Int) < ((x.own.getD g.toNat []).length : Int); omega, rfl⟩ ?_
    refine ask_intro ⟨by omega, by show (k : Int) < ((8 : Nat) : Int); omega⟩ ?_
    refine ask_intro (by show k < 8; omega) ?_
    exact ⟨⟨k + 1, by omega⟩, le_of [(96, 96)] rfl rfl rfl rfl (tellHp_row rfl rfl rfl (fun j hj => (set_pagesF (ownS (x.own.getD g.toNat []) k) k ⟨(x.own.getD g.toNat []).getD k 0, 7⟩ (by omega) j).trans (by rw [est])) tellHp_nil) (tellFr_x rfl ⟨DLe.refl _, DLe.refl _, DLe.refl _, DLe.refl _, trivial⟩ (tellFr_v rfl rfl (tellFr_row rfl rfl (tellFr_v rfl hwr trivial)))), by show (x.own.getD g.toNat []).length - (k + 1) < (x.own.getD g.toNat []).length - k; omega⟩
  obtain rfl : k = (x.own.getD g.toNat []).length := by omega
  refine ask_intro ⟨hg, hg2, rfl⟩ ?_
  refine bsplit_of_false (decide_eq_false (show ¬ ((x.own.getD g.toNat []).length : Int) < ((x.own.getD g.toNat []).length : Int) by omega)) ?_
  refine ⟨{ p : Nat × List PageM // p.1 ≤ x.lns.length ∧ p.2.length = 8 ∧ V = (x.lns.drop p.1).foldl (laneSet g) p.2 }, fun p => ⟨frL [(0, polP x), (1, di g), (5, .row 96), (8, di p.1.1)], hpL [(96, .row 133 2 8 (pagesF p.1.2))], 97, 0⟩, fun p => x.lns.length - p.1.1, ⟨(0, ownS (x.own.getD g.toNat []) (x.own.getD g.toNat []).length), by omega, ownS_len _ _ (Nat.le_refl _) (by omega), hV⟩,
    le_of [(96, 96)] rfl rfl rfl rfl (tellHp_row rfl rfl rfl (fun j hj => rfl) tellHp_nil) (tellFr_x rfl ⟨DLe.refl _, DLe.refl _, DLe.refl _, DLe.refl _, trivial⟩ (tellFr_v rfl rfl (tellFr_row rfl rfl (tellFr_v rfl rfl trivial)))), ?_⟩
  rintro ⟨⟨k, S⟩, hk, hS, hall⟩
  simp only at hk hS hall
  by_cases hk2 : k < x.lns.length
  · rw [drop_consG ⟨0, 0, 0, 0, 0⟩ _ _ hk2, List.foldl_cons] at hall
    have hmem : x.lns.getD k ⟨0, 0, 0, 0, 0⟩ ∈ x.lns := by rw [getD_at _ hk2]; exact List.getElem_mem _
    obtain ⟨⟨a1, a2⟩, ⟨a3, a4⟩, _⟩ := hl _ hmem
    have hwr := congrArg (Value.int .i64) (wrap1 hk2 (by omega))
    have hl8 := laneSet_len g S (x.lns.getD k ⟨0, 0, 0, 0, 0⟩)
    have sp : ∀ (S : List PageM) (i : Nat) (p : PageM), S.length = 8 → i < 8 → ∀ j, (if j = i then splice (pagesF S j) 0 [.v (.int .i64 p.to), .v (.int .i64 p.kinds)] else pagesF S j) = pagesF (S.set i p) j := fun S i p h1 h2 j => set_pagesF S i p (by omega) j
    by_cases c1 : (x.lns.getD k ⟨0, 0, 0, 0, 0⟩).frm = g <;> by_cases c2 : (x.lns.getD k ⟨0, 0, 0, 0, 0⟩).to = g
    · have hstep : laneSet g S (x.lns.getD k ⟨0, 0, 0, 0, 0⟩) = (S.set (x.lns.getD k ⟨0, 0, 0, 0, 0⟩).af.toNat ⟨(x.lns.getD k ⟨0, 0, 0, 0, 0⟩).page, 3⟩).set (x.lns.getD k ⟨0, 0, 0, 0, 0⟩).at_.toNat ⟨(x.lns.getD k ⟨0, 0, 0, 0, 0⟩).page, 1⟩ := by unfold laneSet; rw [if_pos c2, if_pos c1]
      rw [hstep] at hall hl8
      have sp2 : ∀ j, (if j = (x.lns.getD k ⟨0, 0, 0, 0, 0⟩).at_.toNat then splice (if j = (x.lns.getD k ⟨0, 0, 0, 0, 0⟩).af.toNat then splice (pagesF S j) 0 [.v (.int .i64 (x.lns.getD k ⟨0, 0, 0, 0, 0⟩).page), .v (.int .i64 3)] else pagesF S j) 0 [.v (.int .i64 (x.lns.getD k ⟨0, 0, 0, 0, 0⟩).page), .v (.int .i64 1)] else if j = (x.lns.getD k ⟨0, 0, 0, 0, 0⟩).af.toNat then splice (pagesF S j) 0 [.v (.int .i64 (x.lns.getD k ⟨0, 0, 0, 0, 0⟩).page), .v (.int .i64 3)] else pagesF S j) = pagesF ((S.set (x.lns.getD k ⟨0, 0, 0, 0, 0⟩).af.toNat ⟨(x.lns.getD k ⟨0, 0, 0, 0, 0⟩).page, 3⟩).set (x.lns.getD k ⟨0, 0, 0, 0, 0⟩).at_.toNat ⟨(x.lns.getD k ⟨0, 0, 0, 0, 0⟩).page, 1⟩) j := fun j => by
        rw [sp S (x.lns.getD k ⟨0, 0, 0, 0, 0⟩).af.toNat ⟨(x.lns.getD k ⟨0, 0, 0, 0, 0⟩).page, 3⟩ hS (by omega) j]
        exact sp _ (x.lns.getD k ⟨0, 0, 0, 0, 0⟩).at_.toNat ⟨(x.lns.getD k ⟨0, 0, 0, 0, 0⟩).page, 1⟩ (by simpa using hS) (by omega) j
      refine bsplit_of_true (decide_eq_true (show (k : Int) < (x.lns.length : Int) by omega)) ?_
      refine ask_intro ⟨by omega, by show (k : Int) < (x.lns.length : Int); omega, rfl⟩ ?_
      refine bsplit_of_true (beq_iff_eq.2 c1) ?_
      refine ask_intro ⟨by show 0 ≤ (x.lns.getD k ⟨0, 0, 0, 0, 0⟩).af; omega, by show (x.lns.getD k ⟨0, 0, 0, 0, 0⟩).af < ((8 : Nat) : Int); omega⟩ ?_
      refine ask_intro (by show (x.lns.getD k ⟨0, 0, 0, 0, 0⟩).af.toNat < 8; omega) ?_
      refine bsplit_of_true (beq_iff_eq.2 c2) ?_
      refine ask_intro ⟨by show 0 ≤ (x.lns.getD k ⟨0, 0, 0, 0, 0⟩).at_; omega, by show (x.lns.getD k ⟨0, 0, 0, 0, 0⟩).at_ < ((8 : Nat) : Int); omega⟩ ?_
      refine ask_intro (by show (x.lns.getD k ⟨0, 0, 0, 0, 0⟩).at_.toNat < 8; omega) ?_
      exact ⟨⟨(k + 1, _), by show k + 1 ≤ _; omega, hl8.trans hS, hall⟩, le_of [(96, 96)] rfl rfl rfl rfl (tellHp_row rfl rfl rfl (fun j hj => sp2 j) tellHp_nil) (tellFr_x rfl ⟨DLe.refl _, DLe.refl _, DLe.refl _, DLe.refl _, trivial⟩ (tellFr_v rfl rfl (tellFr_row rfl rfl (tellFr_v rfl hwr trivial)))), by show x.lns.length - (k + 1) < x.lns.length - k; omega⟩
    · have hstep : laneSet g S (x.lns.getD k ⟨0, 0, 0, 0, 0⟩) = S.set (x.lns.getD k ⟨0, 0, 0, 0, 0⟩).af.toNat ⟨(x.lns.getD k ⟨0, 0, 0, 0, 0⟩).page, 3⟩ := by unfold laneSet; rw [if_neg c2, if_pos c1]
      rw [hstep] at hall hl8
      refine bsplit_of_true (decide_eq_true (show (k : Int) < (x.lns.length : Int) by omega)) ?_
      refine ask_intro ⟨by omega, by show (k : Int) < (x.lns.length : Int); omega, rfl⟩ ?_
      refine bsplit_of_true (beq_iff_eq.2 c1) ?_
      refine ask_intro ⟨by show 0 ≤ (x.lns.getD k ⟨0, 0, 0, 0, 0⟩).af; omega, by show (x.lns.getD k ⟨0, 0, 0, 0, 0⟩).af < ((8 : Nat) : Int); omega⟩ ?_
      refine ask_intro (by show (x.lns.getD k ⟨0, 0, 0, 0, 0⟩).af.toNat < 8; omega) ?_
      refine bsplit_of_false (beq_eq_false_iff_ne.2 c2) ?_
      exact ⟨⟨(k + 1, _), by show k + 1 ≤ _; omega, hl8.trans hS, hall⟩, le_of [(96, 96)] rfl rfl rfl rfl (tellHp_row rfl rfl rfl (fun j hj => sp S (x.lns.getD k ⟨0, 0, 0, 0, 0⟩).af.toNat ⟨(x.lns.getD k ⟨0, 0, 0, 0, 0⟩).page, 3⟩ hS (by omega) j) tellHp_nil) (tellFr_x rfl ⟨DLe.refl _, DLe.refl _, DLe.refl _, DLe.refl _, trivial⟩ (tellFr_v rfl rfl (tellFr_row rfl rfl (tellFr_v rfl hwr trivial)))), by show x.lns.length - (k + 1) < x.lns.length - k; omega⟩
    · have hstep : laneSet g S (x.lns.getD k ⟨0, 0, 0, 0, 0⟩) = S.set (x.lns.getD k ⟨0, 0, 0, 0, 0⟩).at_.toNat ⟨(x.lns.getD k ⟨0, 0, 0, 0, 0⟩).page, 1⟩ := by unfold laneSet; rw [if_pos c2, if_neg c1]
      rw [hstep] at hall hl8
      refine bsplit_of_true (decide_eq_true (show (k : Int) < (x.lns.length : Int) by omega)) ?_
      refine ask_intro ⟨by omega, by show (k : Int) < (x.lns.length : Int); omega, rfl⟩ ?_
      refine bsplit_of_false (beq_eq_false_iff_ne.2 c1) ?_
      refine bsplit_of_true (beq_iff_eq.2 c2) ?_
      refine ask_intro ⟨by show 0 ≤ (x.lns.getD k ⟨0, 0, 0, 0, 0⟩).at_; omega, by show (x.lns.getD k ⟨0, 0, 0, 0, 0⟩).at_ < ((8 : Nat) : Int); omega⟩ ?_
      refine ask_intro (by show (x.lns.getD k ⟨0, 0, 0, 0, 0⟩).at_.toNat < 8; omega) ?_
      exact ⟨⟨(k + 1, _), by show k + 1 ≤ _; omega, hl8.trans hS, hall⟩, le_of [(96, 96)] rfl rfl rfl rfl (tellHp_row rfl rfl rfl (fun j hj => sp S (x.lns.getD k ⟨0, 0, 0, 0, 0⟩).at_.toNat ⟨(x.lns.getD k ⟨0, 0, 0, 0, 0⟩).page, 1⟩ hS (by omega) j) tellHp_nil) (tellFr_x rfl ⟨DLe.refl _, DLe.refl _, DLe.refl _, DLe.refl _, trivial⟩ (tellFr_v rfl rfl (tellFr_row rfl rfl (tellFr_v rfl hwr trivial)))), by show x.lns.length - (k + 1) < x.lns.length - k; omega⟩
    · have hstep : laneSet g S (x.lns.getD k ⟨0, 0, 0, 0, 0⟩) = S := by unfold laneSet; rw [if_neg c2, if_neg c1]
      rw [hstep] at hall hl8
      refine bsplit_of_true (decide_eq_true (show (k : Int) < (x.lns.length : Int) by omega)) ?_
      refine ask_intro ⟨by omega, by show (k : Int) < (x.lns.length : Int); omega, rfl⟩ ?_
      refine bsplit_of_false (beq_eq_false_iff_ne.2 c1) ?_
      refine bsplit_of_false (beq_eq_false_iff_ne.2 c2) ?_
      exact ⟨⟨(k + 1, S), by show k + 1 ≤ _; omega, hS, hall⟩, le_of [(96, 96)] rfl rfl rfl rfl (tellHp_row rfl rfl rfl (fun j hj => rfl) tellHp_nil) (tellFr_x rfl ⟨DLe.refl _, DLe.refl _, DLe.refl _, DLe.refl _, trivial⟩ (tellFr_v rfl rfl (tellFr_row rfl rfl (tellFr_v rfl hwr trivial)))), by show x.lns.length - (k + 1) < x.lns.length - k; omega⟩
  obtain rfl : k = x.lns.length := by omega
  rw [List.drop_eq_nil_of_le (Nat.le_refl _)] at hall
  have hall : V = S := hall
  subst hall
  refine bsplit_of_false (decide_eq_false (show ¬ (x.lns.length : Int) < (x.lns.length : Int) by omega)) ?_
  exact ⟨⟨⟨rfl, rfl, hS.symm, fun j hj => ⟨rfl, rfl⟩⟩, trivial⟩, rfl⟩
def pagesFor (x : PolM) (g : Int) : Int × List PageM := if askedG x g = 0 then (0, pagesP x g) else (askedG x g, [])
theorem asked_pol {x : PolM} {g : Int} (h : askedG x g = 0) : polFault x = 0 := by
  unfold askedG at h
  split at h
  · assumption
  · rename_i e; exact absurd h e
theorem pagesFor_few (x : PolM) (g : Int) : (pagesFor x g).2.length ≤ 1048576 := by
  unfold pagesFor
  split
  · rename_i h
    have := pagesP_len (own_row h).2.2.1
    simp only; omega
  · simp
theorem c_impl_PagesFor (x : PolM) (hs : x.small) (g : Int) : FnOK Try.prog 33 [polLV x, di g] (.r (pgsR (pagesFor x g))) := by
  have c1 := c_impl_guestFault x hs g
  have cp := fun h : askedG x g = 0 => c_impl_Policy_pagesFor x hs g (own_row h).1 (own_row h).2.1 (own_row h).2.2.1 (lns_ok (asked_pol h))
  obtain ⟨r, hr⟩ : ∃ r, r = pagesFor x g := ⟨_, rfl⟩
  rw [← hr]
  unfold pagesFor at hr
  generalize askedG x g = e at *
  refine fn_of lv33 Try.func33 rfl rfl (by kernel_rfl) rfl ?_
  refine .inl ⟨_, _, rfl, c1, rfl, ?_⟩
  refine bsplit_intro (fun h => ?_) (fun h => ?_)
  · rw [if_neg (by simpa using h)] at hr
    subst hr
    exact ⟨⟨rfl, ⟨rfl, rfl⟩, trivial⟩, rfl⟩
  have h : e = 0 := by simpa using h
  rw [if_pos h] at hr
  subst hr
  refine .inl ⟨_, _, rfl, cp h, rfl, ?_⟩
  exact ⟨⟨rfl, ⟨rfl, rfl, rfl, fun j hj => ⟨rfl, rfl⟩⟩, trivial⟩, rfl⟩
theorem c_spec_PagesFor (x : PolM) (hs : x.small) (g : Int) : FnOK Try.prog 32 [polLV x, di g] (.r (pgsR (pagesFor x g))) := by
  have c1 := c_spec_l6Asked x hs g
  have cp := fun h : askedG x g = 0 => c_spec_l7Pages x hs g (own_row h).1 (own_row h).2.1 (own_row h).2.2.1 (lns_ok (asked_pol h))
  obtain ⟨r, hr⟩ : ∃ r, r = pagesFor x g := ⟨_, rfl⟩
  rw [← hr]
  unfold pagesFor at hr
  generalize askedG x g = e at *
  refine fn_of lv32 Try.func32 rfl rfl (by kernel_rfl) rfl ?_
  refine .inl ⟨_, _, rfl, c1, rfl, ?_⟩
  refine bsplit_intro (fun h => ?_) (fun h => ?_)
  · rw [if_neg (by simpa using h)] at hr
    subst hr
    exact ⟨⟨rfl, ⟨rfl, rfl⟩, trivial⟩, rfl⟩
  have h : e = 0 := by simpa using h
  rw [if_pos h] at hr
  subst hr
  refine .inl ⟨_, _, rfl, cp h, rfl, ?_⟩
  exact ⟨⟨rfl, ⟨rfl, rfl, rfl, fun j hj => ⟨rfl, rfl⟩⟩, trivial⟩, rfl⟩
end Go.Proofs.Ytojaakpnpdnbhaa.L

/- The pages of all guests: contracts. -/
set_option linter.unusedVariables false
set_option linter.unusedSimpArgs false
set_option maxRecDepth 100000
namespace Go.Proofs.Ytojaakpnpdnbhaa.L
open Go.RowKit
abbrev pgssF (l : List (List PageM)) (i : Nat) : List D := [pages (l.getD i [])]
abbrev pgss (l : List (List PageM)) : D := .l l.length (pgssF l)
abbrev lenP (l : List (List PageM)) (i : Nat) : Nat := (l.getD i []).length
abbrev inP (l : List (List PageM)) (i j : Nat) : List D := pagesF (l.getD i []) j
abbrev oPgss (l : List (List PageM)) : RC := .ownn 56 133 2 l.length (lenP l) (inP l)
abbrev mapsR (p : Int × List (List PageM)) : RV1 := .agg [.v (.int .i64 p.1), oPgss p.2]
abbrev mapsLV (p : Int × List (List PageM)) : LV := .agg [di p.1, .d (pgss p.2)]
abbrev pgNest (x : PolM) (n : Nat) : Ent := .nest 56 133 2 n (fun i : Nat => (pagesP x (i : Int)).length) (fun i : Nat => pagesF (pagesP x (i : Int))) []
def mapsL (x : PolM) : List (List PageM) := (List.range x.own.length).map fun i : Nat => pagesP x (i : Int)
def buildMaps (x : PolM) : Int × List (List PageM) := if polFault x = 0 then (0, mapsL x) else (polFault x, [])
theorem mapsL_get (x : PolM) (i : Nat) (h : i < x.own.length) : (mapsL x).getD i [] = pagesP x i := by simp [mapsL, List.getD, h]
theorem pol_own {x : PolM} (h : polFault x = 0) (i : Nat) (hi : i < x.own.length) : (x.own.getD i []).length ≤ 5 := by
  have ha : askedG x i = 0 := by
    unfold askedG
    rw [if_pos h]
    have : guestB x.own.length i = true := inR_iff.2 ⟨by omega, by omega⟩
    rw [this]; rfl
  exact (own_row ha).2.2.1
theorem pol_few {x : PolM} (h : polFault x = 0) : 1 ≤ x.own.length ∧ x.own.length ≤ 3 := by
  have ho : ownBad x.own = 0 := by
    unfold polFault at h
    split at h
    · assumption
    · rename_i e; exact absurd h e
  unfold ownBad at ho
  cases hq : inR (x.own.length : Int) 1 3 with
  | false => rw [hq] at ho; simp at ho
  | true => have := inR_iff.1 hq; omega
set_option maxHeartbeats 1600000 in
theorem c_impl_BuildMaps (x : PolM) (hs : x.small) : FnOK Try.prog 43 [polLV x] (.r (mapsR (buildMaps x))) := by
  have c1 := c_impl_PolicyFault x hs
  have c2 := fun h : polFault x = 0 => fun (k : Nat) (hk : k < x.own.length) => c_impl_Policy_pagesFor x hs k (by omega) (by omega) (pol_own h k hk) (lns_ok h)
  have hfew := fun h : polFault x = 0 => (pol_few h).2
  obtain ⟨r, hr⟩ : ∃ r, r = buildMaps x := ⟨_, rfl⟩
  rw [← hr]
  unfold buildMaps at hr
  generalize polFault x = e at *
  refine fn_of lv43 Try.func43 rfl rfl (by kernel_rfl) rfl ?_
  refine .inl ⟨_, _, rfl, c1, rfl, ?_⟩
  refine bsplit_intro (fun h => ?_) (fun h => ?_)
  · rw [if_neg (by simpa using h)] at hr
    subst hr
    exact ⟨⟨rfl, ⟨rfl, rfl⟩, trivial⟩, rfl⟩
  have h : e = 0 := by simpa using h
  rw [if_pos h] at hr
  subst hr
  have c2 := c2 h
  have hfew := hfew h
  refine ask_intro trivial ?_
  refine ⟨{ i : Nat // i ≤ x.own.length }, fun i => ⟨frL [(1, .ptr 64 0), (2, .ptr 65 0), (4, .row 66), (15, di x.own.length), (16, di i.1)], hpL [(64, .box 38 [.d (owns x.own), .d (lanes x.lns), .d (bells x.bls), .d (slots x.pln)]), (65, .box 71 [di 0, .d (.v (.slice none 0 0))]), (66, pgNest x i.1)], 97, 0⟩, fun i => x.own.length - i.1, ⟨0, by omega⟩,
    le_of [(64, 0), (65, 32), (66, 12288)] rfl rfl rfl rfl (tellHp_box rfl rfl ⟨DLe.refl _, DLe.refl _, DLe.refl _, DLe.refl _, trivial⟩ (tellHp_box rfl rfl ⟨rfl, rfl, trivial⟩ (tellHp_nest rfl rfl rfl (fun i hi => absurd hi (Nat.not_lt_zero _)) tellHp_nil))) (tellFr_ptr rfl rfl (tellFr_ptr rfl rfl (tellFr_row rfl rfl (tellFr_v rfl rfl (tellFr_v rfl rfl trivial))))), ?_⟩
  rintro ⟨k, hk⟩
  by_cases hk2 : k < x.own.length
  · have hwr := congrArg (Value.int .i64) (wrap1 hk2 (by omega))
    refine bsplit_of_true (decide_eq_true (show (k : Int) < (x.own.length : Int) by omega)) ?_
    refine .inl ⟨_, _, rfl, c2 k hk2, rfl, ?_⟩
    refine ask_intro trivial ?_
    refine ask_intro ⟨by show (k + 1) * 24 ≤ 140737488355328; omega, by show k + 1 ≤ 9223372036854775807; omega, trivial⟩ ?_
    refine ⟨⟨k + 1, by omega⟩, le_of [(64, 64), (65, 65), (66, 8417)] rfl rfl rfl rfl (tellHp_box rfl rfl ⟨DLe.refl _, DLe.refl _, DLe.refl _, DLe.refl _, trivial⟩ (tellHp_box rfl rfl ⟨rfl, rfl, trivial⟩ (tellHp_hole rfl rfl rfl rfl rfl rfl ⟨rfl, fun j hj => rfl⟩ (fun j hj hne => ⟨?_, fun q hq => ?_⟩) tellHp_nil))) (tellFr_ptr rfl rfl (tellFr_ptr rfl rfl (tellFr_row rfl rfl (tellFr_v rfl rfl (tellFr_v rfl hwr trivial))))), by show x.own.length - (k + 1) < x.own.length - k; omega⟩
    · show (if j < k then (pagesP x j).length else 0) = _
      have hj : j < k + 1 := hj
      have hne : j ≠ k := hne
      rw [if_pos (by omega)]
    · show (if j < k then pagesF (pagesP x j) else fun _ => []) q = _
      have hj : j < k + 1 := hj
      have hne : j ≠ k := hne
      rw [if_pos (by omega)]
  obtain rfl : k = x.own.length := by omega
  refine bsplit_of_false (decide_eq_false (show ¬ (x.own.length : Int) < (x.own.length : Int) by omega)) ?_
  refine ⟨⟨rfl, ⟨rfl, rfl, rfl, ?_, fun i hi => ⟨?_, fun j hj => ⟨?_, rfl⟩⟩⟩, trivial⟩, rfl⟩
  · show x.own.length = (mapsL x).length
    simp [mapsL]
  · have hi : i < (mapsL x).length := hi
    show (pagesP x i).length = ((mapsL x).getD i []).length
    rw [mapsL_get x i (by simpa [mapsL] using hi)]
  · have hi : i < (mapsL x).length := hi
    show pagesF (pagesP x i) j = pagesF ((mapsL x).getD i []) j
    rw [mapsL_get x i (by simpa [mapsL] using hi)]
set_option maxHeartbeats 1600000 in
theorem c_spec_BuildMaps (x : PolM) (hs : x.small) : FnOK Try.prog 42 [polLV x] (.r (mapsR (buildMaps x))) := by
  have c1 := c_spec_l6Fault x hs
  have c2 := fun h : polFault x = 0 => fun (k : Nat) (hk : k < x.own.length) => c_spec_l7Pages x hs k (by omega) (by omega) (pol_own h k hk) (lns_ok h)
  have hfew := fun h : polFault x = 0 => (pol_few h).2
  obtain ⟨r, hr⟩ : ∃ r, r = buildMaps x := ⟨_, rfl⟩
  rw [← hr]
  unfold buildMaps at hr
  generalize polFault x = e at *
  refine fn_of lv42 Try.func42 rfl rfl (by kernel_rfl) rfl ?_
  refine .inl ⟨_, _, rfl, c1, rfl, ?_⟩
  refine bsplit_intro (fun h => ?_) (fun h => ?_)
  · rw [if_neg (by simpa using h)] at hr
    subst hr
    exact ⟨⟨rfl, ⟨rfl, rfl⟩, trivial⟩, rfl⟩
  have h : e = 0 := by simpa using h
  rw [if_pos h] at hr
  subst hr
  have c2 := c2 h
  have hfew := hfew h
  refine ⟨{ i : Nat // i ≤ x.own.length }, fun i => ⟨frL [(1, .ptr 64 0), (2, .ptr 65 0), (4, .ptr 66 0), (5, di i.1)], hpL [(64, .box 38 [.d (owns x.own), .d (lanes x.lns), .d (bells x.bls), .d (slots x.pln)]), (65, .box 71 [di 0, .d (.v (.slice none 0 0))]), (66, .box 71 [di 0, .row 67]), (67, pgNest x i.1)], 97, 0⟩, fun i => x.own.length - i.1, ⟨0, by omega⟩,
    Le.trans (nilBox (k := 12320) (i := 1) (t := 71) (cs := [di 0, .d (.v (.slice none 0 0))]) rfl rfl (pgNest x 0) rfl rfl) (le_of [(64, 0), (65, 32), (66, 12320), (67, 20480)] rfl rfl rfl rfl (tellHp_box rfl rfl ⟨DLe.refl _, DLe.refl _, DLe.refl _, DLe.refl _, trivial⟩ (tellHp_box rfl rfl ⟨rfl, rfl, trivial⟩ (tellHp_box rfl rfl ⟨rfl, rfl, trivial⟩ (tellHp_nest rfl rfl rfl (fun i hi => absurd hi (Nat.not_lt_zero _)) tellHp_nil)))) (tellFr_ptr rfl rfl (tellFr_ptr rfl rfl (tellFr_ptr rfl rfl (tellFr_v rfl rfl trivial))))), ?_⟩
  rintro ⟨k, hk⟩
  by_cases hk2 : k < x.own.length
  · have hwr := congrArg (Value.int .i64) (wrap1 hk2 (by omega))
    refine bsplit_of_true (decide_eq_true (show (k : Int) < (x.own.length : Int) by omega)) ?_
    refine .inl ⟨_, _, rfl, c2 k hk2, rfl, ?_⟩
    refine ask_intro trivial ?_
    refine ask_intro ⟨by show (k + 1) * 24 ≤ 140737488355328; omega, by show k + 1 ≤ 9223372036854775807; omega, trivial⟩ ?_
    refine chk_intro (by kernel_rfl) ?_
    refine ⟨⟨k + 1, by omega⟩, le_of [(64, 64), (65, 65), (66, 66), (67, 4353)] rfl rfl rfl rfl (tellHp_box rfl rfl ⟨DLe.refl _, DLe.refl _, DLe.refl _, DLe.refl _, trivial⟩ (tellHp_box rfl rfl ⟨rfl, rfl, trivial⟩ (tellHp_box rfl rfl ⟨rfl, rfl, trivial⟩ (tellHp_hole rfl rfl rfl rfl rfl rfl ⟨rfl, fun j hj => rfl⟩ (fun j hj hne => ⟨?_, fun q hq => ?_⟩) tellHp_nil)))) (tellFr_ptr rfl rfl (tellFr_ptr rfl rfl (tellFr_ptr rfl rfl (tellFr_v rfl hwr trivial)))), by show x.own.length - (k + 1) < x.own.length - k; omega⟩
    · show (if j < k then (pagesP x j).length else 0) = _
      have hj : j < k + 1 := hj
      have hne : j ≠ k := hne
      rw [if_pos (by omega)]
    · show (if j < k then pagesF (pagesP x j) else fun _ => []) q = _
      have hj : j < k + 1 := hj
      have hne : j ≠ k := hne
      rw [if_pos (by omega)]
  obtain rfl : k = x.own.length := by omega
  refine bsplit_of_false (decide_eq_false (show ¬ (x.own.length : Int) < (x.own.length : Int) by omega)) ?_
  refine ⟨⟨rfl, ⟨rfl, rfl, rfl, ?_, fun i hi => ⟨?_, fun j hj => ⟨?_, rfl⟩⟩⟩, trivial⟩, rfl⟩
  · show x.own.length = (mapsL x).length
    simp [mapsL]
  · have hi : i < (mapsL x).length := hi
    show (pagesP x i).length = ((mapsL x).getD i []).length
    rw [mapsL_get x i (by simpa [mapsL] using hi)]
  · have hi : i < (mapsL x).length := hi
    show pagesF (pagesP x i) j = pagesF ((mapsL x).getD i []) j
    rw [mapsL_get x i (by simpa [mapsL] using hi)]
end Go.Proofs.Ytojaakpnpdnbhaa.L

/- Images in the memory of a host: contracts. -/
set_option linter.unusedVariables false
set_option linter.unusedSimpArgs false
set_option maxRecDepth 100000
namespace Go.Proofs.Ytojaakpnpdnbhaa.L
open Go.RowKit
theorem set_intsF (S : List Int) (i : Nat) (v : Int) (hi : i < S.length) (j : Nat) : (if j = i then splice (intsF S j) 0 [.v (.int .i64 v)] else intsF S j) = intsF (S.set i v) j := by
  by_cases h : j = i
  · subst h
    rw [if_pos rfl]
    have e : (S.set j v).getD j 0 = v := by simp [List.getD, hi]
    simp only [intsF, e]
    rfl
  · rw [if_neg h]
    have e : (S.set i v).getD j 0 = S.getD j 0 := by simp [List.getD, List.getElem?_set_ne (Ne.symm h)]
    simp only [intsF, e]
def plI (own : List Int) (i : Nat) : Nat := (own.getD (i / 8) 0 * 8 + ((i % 8 : Nat) : Int)).toNat
def imgS (own img m : List Int) (i : Nat) : List Int := m.set (plI own i) (wrapW (img.getD i 0))
def imgM (own img m : List Int) (n : Nat) : List Int := (List.range n).foldl (imgS own img) m
theorem imgM_succ (own img m : List Int) (n : Nat) : imgM own img m (n + 1) = imgS own img (imgM own img m n) n := by simp [imgM, List.range_succ]
theorem imgM_len (own img m : List Int) : ∀ n, (imgM own img m n).length = m.length
  | 0 => rfl
  | n + 1 => by rw [imgM_succ, imgS, List.length_set, imgM_len own img m n]
def allM (own imgs : List (List Int)) : Nat → List Int
  | 0 => List.replicate 192 0
  | n + 1 => imgM (own.getD n []) (imgs.getD n []) (allM own imgs n) (imgs.getD n []).length
theorem allM_len (own imgs : List (List Int)) : ∀ n, (allM own imgs n).length = 192
  | 0 => by simp [allM]
  | n + 1 => by rw [allM, imgM_len, allM_len own imgs n]
theorem tdiv8 (i : Nat) (h : i ≤ 1048576) : IntKind.i64.wrap (Int.tdiv (i : Int) 8) = ((i / 8 : Nat) : Int) := by
  rw [Int.tdiv_eq_ediv_of_nonneg (by omega)]
  exact (wrap_i64 _ (by omega) (by omega)).trans (by omega)
theorem tmod8 (i : Nat) : Int.tmod (i : Int) 8 = ((i % 8 : Nat) : Int) := by
  rw [Int.tmod_eq_emod_of_nonneg (by omega)]
  omega
/-- where a word of an image goes -/
theorem img_place {own : List Int} {i : Nat} (hi : i < own.length * 8) (h5 : own.length ≤ 5) (hp : ∀ p ∈ own, 0 ≤ p ∧ p ≤ 23) :
    (0 ≤ IntKind.i64.wrap (Int.tdiv (i : Int) 8) ∧ IntKind.i64.wrap (Int.tdiv (i : Int) 8) < (own.length : Int)) ∧
    IntKind.i64.wrap (IntKind.i64.wrap (own.getD (IntKind.i64.wrap (Int.tdiv (i : Int) 8)).toNat 0 * 8) + Int.tmod (i : Int) 8) = ((plI own i : Nat) : Int) ∧ plI own i < 192 := by
  rw [tdiv8 i (by omega), tmod8]
  have hlt : i / 8 < own.length := by omega
  obtain ⟨h1, h2⟩ := hp (own.getD (i / 8) 0) (by rw [getD_at _ hlt]; exact List.getElem_mem _)
  unfold plI
  rw [Int.toNat_natCast]
  generalize own.getD (i / 8) 0 = p at *
  rw [wrap_i64 (p * 8) (by omega) (by omega), wrap_i64 _ (by omega) (by omega)]
  omega
def tooLong (own imgs : List (List Int)) (n : Nat) : Bool := (List.range n).any fun g => decide ((own.getD g []).length * 8 < (imgs.getD g []).length)
theorem tooLong_succ (own imgs : List (List Int)) (n : Nat) : tooLong own imgs (n + 1) = (tooLong own imgs n || decide ((own.getD n []).length * 8 < (imgs.getD n []).length)) := by simp [tooLong, List.range_succ]
theorem tooLong_le {own imgs : List (List Int)} : ∀ {n m : Nat}, n ≤ m → tooLong own imgs m = false → tooLong own imgs n = false := by
  intro n m h hm
  unfold tooLong at *
  rw [List.any_eq_false] at *
  intro g hg
  exact hm g (by simp at hg ⊢; omega)
theorem tooLong_at {own imgs : List (List Int)} {n g : Nat} (h : tooLong own imgs n = false) (hg : g < n) : (imgs.getD g []).length ≤ (own.getD g []).length * 8 := by
  unfold tooLong at h
  rw [List.any_eq_false] at h
  have := h g (by simpa using hg)
  simpa using this
theorem tooLong_hit {own imgs : List (List Int)} {n g : Nat} (hg : g < n) (h : (own.getD g []).length * 8 < (imgs.getD g []).length) : tooLong own imgs n = true := by
  unfold tooLong
  rw [List.any_eq_true]
  exact ⟨g, by simpa using hg, by simpa using h⟩
def imgCode (own imgs : List (List Int)) : Int := if imgs.length = own.length then (if tooLong own imgs own.length = true then 8 else 0) else 2
def loadImages (x : PolM) (imgs : List (List Int)) : Int × List Int := if polFault x = 0 then (if imgCode x.own imgs = 0 then (0, allM x.own imgs x.own.length) else (imgCode x.own imgs, [])) else (polFault x, [])
theorem loadImages_few (x : PolM) (imgs : List (List Int)) : (loadImages x imgs).2.length ≤ 1048576 := by
  unfold loadImages
  split
  · split
    · have := allM_len x.own imgs x.own.length
      simp only; omega
    · simp
  · simp
theorem pol_row {x : PolM} (h : polFault x = 0) (i : Nat) (hi : i < x.own.length) : (x.own.getD i []).length ≤ 5 ∧ ∀ p ∈ x.own.getD i [], 0 ≤ p ∧ p ≤ 23 := by
  have ha : askedG x i = 0 := by
    unfold askedG
    rw [if_pos h]
    have : guestB x.own.length i = true := inR_iff.2 ⟨by omega, by omega⟩
    rw [this]; rfl
  exact (own_row ha).2.2
set_option maxHeartbeats 1600000 in
theorem c_impl_LoadImages (x : PolM) (hs : x.small) (imgs : List (List Int)) (hI : imgs.length ≤ 1048576) (hI2 : ∀ i, i < imgs.length → (imgs.getD i []).length ≤ 1048576) : FnOK Try.prog 16 [polLV x, .d (owns imgs)] (.r (irsR (loadImages x imgs))) := by
  have c1 := c_impl_PolicyFault x hs
  have hrow := fun h : polFault x = 0 => pol_row h
  have hfew := fun h : polFault x = 0 => (pol_few h).2
  have hown := hs.own
  obtain ⟨r, hr⟩ : ∃ r, r = loadImages x imgs := ⟨_, rfl⟩
  rw [← hr]
  unfold loadImages at hr
  generalize polFault x = e at *
  refine fn_of lv16 Try.func16 rfl rfl (by kernel_rfl) rfl ?_
  refine .inl ⟨_, _, rfl, c1, rfl, ?_⟩
  refine bsplit_intro (fun h => ?_) (fun h => ?_)
  · rw [if_neg (by simpa using h)] at hr
    subst hr
    exact ⟨⟨rfl, ⟨rfl, rfl⟩, trivial⟩, rfl⟩
  have h : e = 0 := by simpa using h
  rw [if_pos h] at hr
  have hrow := hrow h
  have hfew := hfew h
  unfold imgCode at hr
  refine bsplit_intro (fun h2 => ?_) (fun h2 => ?_)
  · have h2 : ¬ imgs.length = x.own.length := by simp at h2; omega
    rw [if_neg h2] at hr
    have hr : r = (2, []) := hr
    subst hr
    exact ⟨⟨rfl, ⟨rfl, rfl⟩, trivial⟩, rfl⟩
  have h2 : imgs.length = x.own.length := by simp at h2; omega
  rw [if_pos h2] at hr
  refine ask_intro ⟨rfl, by decide, by decide, by decide⟩ ?_
  refine ⟨{ g : Nat // g ≤ x.own.length ∧ tooLong x.own imgs g = false }, fun g => ⟨frL [(2, .ptr 64 0), (4, .ptr 65 0), (6, .row 66), (26, .d (owns imgs)), (27, di imgs.length), (28, di g.1)], hpL [(64, .box 38 [.d (owns x.own), .d (lanes x.lns), .d (bells x.bls), .d (slots x.pln)]), (65, .box 32 [di 0, .d (.v (.slice none 0 0))]), (66, .row 2 1 192 (intsF (allM x.own imgs g.1)))], 97, 0⟩, fun g => x.own.length - g.1, ⟨0, by omega, rfl⟩,
    le_of [(64, 0), (65, 32), (66, 16384)] rfl rfl rfl rfl (tellHp_box rfl rfl ⟨DLe.refl _, DLe.refl _, DLe.refl _, DLe.refl _, trivial⟩ (tellHp_box rfl rfl ⟨rfl, rfl, trivial⟩ (tellHp_row rfl rfl rfl (fun j hj => ?_) tellHp_nil))) (tellFr_ptr rfl rfl (tellFr_ptr rfl rfl (tellFr_row rfl rfl (tellFr_d rfl (DLe.refl _) (tellFr_v rfl rfl (tellFr_v rfl rfl trivial)))))), ?_⟩
  · have hj : j < 192 := hj
    show [D.v (.int .i64 0)] = intsF (List.replicate 192 0) j
    have e : (List.replicate 192 (0 : Int)).getD j 0 = 0 := by simp only [List.getD, List.getElem?_replicate, if_pos hj, Option.getD_some]
    simp only [intsF, e]
  rintro ⟨g, hg, hlong⟩
  by_cases hg2 : g < x.own.length
  rotate_left
  · obtain rfl : g = x.own.length := by omega
    rw [hlong] at hr
    have hr : r = (0, allM x.own imgs x.own.length) := hr
    subst hr
    refine bsplit_of_false (decide_eq_false (show ¬ (x.own.length : Int) < (imgs.length : Int) by omega)) ?_
    exact ⟨⟨rfl, ⟨rfl, rfl, (allM_len _ _ _).symm, fun j hj => ⟨rfl, rfl⟩⟩, trivial⟩, rfl⟩
  obtain ⟨hr5, hrp⟩ := hrow g hg2
  have hwr := congrArg (Value.int .i64) (wrap1 hg2 (by omega))
  have hw8 : IntKind.i64.wrap (((x.own.getD g []).length : Int) * 8) = ((x.own.getD g []).length : Int) * 8 := wrap_i64 _ (by omega) (by omega)
  by_cases hlen : (x.own.getD g []).length * 8 < (imgs.getD g []).length
  · rw [if_pos (tooLong_hit hg2 hlen)] at hr
    have hr : r = (8, []) := hr
    subst hr
    refine bsplit_of_true (decide_eq_true (show (g : Int) < (imgs.length : Int) by omega)) ?_
    refine ask_intro ⟨by omega, by show (g : Int) < (imgs.length : Int); omega, rfl⟩ ?_
    refine ask_intro ⟨by omega, by show (g : Int) < (x.own.length : Int); omega, rfl⟩ ?_
    refine bsplit_of_true (decide_eq_true (show ((imgs.getD g []).length : Int) > IntKind.i64.wrap (((x.own.getD g []).length : Int) * 8) by rw [hw8]; omega)) ?_
    exact ⟨⟨rfl, ⟨rfl, rfl⟩, trivial⟩, rfl⟩
  have hlong2 : tooLong x.own imgs (g + 1) = false := by rw [tooLong_succ, hlong, decide_eq_false hlen]; rfl
  refine bsplit_of_true (decide_eq_true (show (g : Int) < (imgs.length : Int) by omega)) ?_
  refine ask_intro ⟨by omega, by show (g : Int) < (imgs.length : Int); omega, rfl⟩ ?_
  refine ask_intro ⟨by omega, by show (g : Int) < (x.own.length : Int); omega, rfl⟩ ?_
  refine bsplit_of_false (decide_eq_false (show ¬ ((imgs.getD g []).length : Int) > IntKind.i64.wrap (((x.own.getD g []).length : Int) * 8) by rw [hw8]; omega)) ?_
  refine ⟨{ i : Nat // i ≤ (imgs.getD g []).length }, fun i => ⟨frL [(2, .ptr 64 0), (4, .ptr 65 0), (6, .row 66), (26, .d (owns imgs)), (27, di imgs.length), (28, di g), (9, .d (ints (x.own.getD g []))), (45, .d (ints (imgs.getD g []))), (46, di (imgs.getD g []).length), (47, di i.1)], hpL [(64, .box 38 [.d (owns x.own), .d (lanes x.lns), .d (bells x.bls), .d (slots x.pln)]), (65, .box 32 [di 0, .d (.v (.slice none 0 0))]), (66, .row 2 1 192 (intsF (imgM (x.own.getD g []) (imgs.getD g []) (allM x.own imgs g) i.1)))], 97, 0⟩, fun i => (imgs.getD g []).length - i.1, ⟨0, by omega⟩,
    le_of [(64, 64), (65, 65), (66, 66)] rfl rfl rfl rfl (tellHp_box rfl rfl ⟨DLe.refl _, DLe.refl _, DLe.refl _, DLe.refl _, trivial⟩ (tellHp_box rfl rfl ⟨rfl, rfl, trivial⟩ (tellHp_row rfl rfl rfl (fun j hj => rfl) tellHp_nil))) (tellFr_ptr rfl rfl (tellFr_ptr rfl rfl (tellFr_row rfl rfl (tellFr_d rfl (DLe.refl _) (tellFr_v rfl rfl (tellFr_v rfl rfl (tellFr_d rfl (DLe.refl _) (tellFr_d rfl (DLe.refl _) (tellFr_v rfl rfl (tellFr_v rfl rfl trivial)))))))))), ?_⟩
  rintro ⟨i, hi⟩
  by_cases hi2 : i < (imgs.getD g []).length
  rotate_left
  · obtain rfl : i = (imgs.getD g []).length := by omega
    refine bsplit_of_false (decide_eq_false (show ¬ ((imgs.getD g []).length : Int) < ((imgs.getD g []).length : Int) by omega)) ?_
    exact ⟨⟨g + 1, by omega, hlong2⟩, le_of [(64, 64), (65, 65), (66, 66)] rfl rfl rfl rfl (tellHp_box rfl rfl ⟨DLe.refl _, DLe.refl _, DLe.refl _, DLe.refl _, trivial⟩ (tellHp_box rfl rfl ⟨rfl, rfl, trivial⟩ (tellHp_row rfl rfl rfl (fun j hj => rfl) tellHp_nil))) (tellFr_ptr rfl rfl (tellFr_ptr rfl rfl (tellFr_row rfl rfl (tellFr_d rfl (DLe.refl _) (tellFr_v rfl rfl (tellFr_v rfl hwr trivial)))))), by show x.own.length - (g + 1) < x.own.length - g; omega⟩
  obtain ⟨⟨a1, a2⟩, a3, a4⟩ := img_place (own := x.own.getD g []) (i := i) (by omega) hr5 hrp
  have hwi := congrArg (Value.int .i64) (wrap1 hi2 (by have := hI2 g (by omega); omega))
  have hml : (imgM (x.own.getD g []) (imgs.getD g []) (allM x.own imgs g) i).length = 192 := by rw [imgM_len, allM_len]
  have hst := set_intsF (imgM (x.own.getD g []) (imgs.getD g []) (allM x.own imgs g) i) (plI (x.own.getD g []) i) (wrapW ((imgs.getD g []).getD i 0)) (by omega)
  have hsu := imgM_succ (x.own.getD g []) (imgs.getD g []) (allM x.own imgs g) i
  have a5 : (IntKind.i64.wrap (IntKind.i64.wrap ((x.own.getD g []).getD (IntKind.i64.wrap (Int.tdiv (i : Int) 8)).toNat 0 * 8) + Int.tmod (i : Int) 8)).toNat = plI (x.own.getD g []) i := by rw [a3]; rfl
  refine bsplit_of_true (decide_eq_true (show (i : Int) < ((imgs.getD g []).length : Int) by omega)) ?_
  refine ask_intro ⟨by omega, by show (i : Int) < ((imgs.getD g []).length : Int); omega, rfl⟩ ?_
  refine ask_intro (by decide) ?_
  refine ask_intro ⟨a1, a2, rfl⟩ ?_
  refine ask_intro (by decide) ?_
  refine .inl ⟨_, _, rfl, c_impl_WrapWord ((imgs.getD g []).getD i 0), rfl, ?_⟩
  refine ask_intro ⟨by show 0 ≤ IntKind.i64.wrap (IntKind.i64.wrap ((x.own.getD g []).getD (IntKind.i64.wrap (Int.tdiv (i : Int) 8)).toNat 0 * 8) + Int.tmod (i : Int) 8); omega, by show IntKind.i64.wrap (IntKind.i64.wrap ((x.own.getD g []).getD (IntKind.i64.wrap (Int.tdiv (i : Int) 8)).toNat 0 * 8) + Int.tmod (i : Int) 8) < ((192 : Nat) : Int); omega⟩ ?_
  refine ask_intro (by show (IntKind.i64.wrap (IntKind.i64.wrap ((x.own.getD g []).getD (IntKind.i64.wrap (Int.tdiv (i : Int) 8)).toNat 0 * 8) + Int.tmod (i : Int) 8)).toNat < 192; omega) ?_
  refine chk_intro (by kernel_rfl) ?_
  refine ⟨⟨i + 1, by omega⟩, le_of [(64, 64), (65, 65), (66, 66)] rfl rfl rfl rfl (tellHp_box rfl rfl ⟨DLe.refl _, DLe.refl _, DLe.refl _, DLe.refl _, trivial⟩ (tellHp_box rfl rfl ⟨rfl, rfl, trivial⟩ (tellHp_row rfl rfl rfl (fun j hj => ?_) tellHp_nil))) (tellFr_ptr rfl rfl (tellFr_ptr rfl rfl (tellFr_row rfl rfl (tellFr_d rfl (DLe.refl _) (tellFr_v rfl rfl (tellFr_v rfl rfl (tellFr_d rfl (DLe.refl _) (tellFr_d rfl (DLe.refl _) (tellFr_v rfl rfl (tellFr_v rfl hwi trivial)))))))))), by show (imgs.getD g []).length - (i + 1) < (imgs.getD g []).length - i; omega⟩
  show (if j = (IntKind.i64.wrap (IntKind.i64.wrap ((x.own.getD g []).getD (IntKind.i64.wrap (Int.tdiv (i : Int) 8)).toNat 0 * 8) + Int.tmod (i : Int) 8)).toNat then splice (intsF (imgM (x.own.getD g []) (imgs.getD g []) (allM x.own imgs g) i) j) 0 [.v (.int .i64 (wrapW ((imgs.getD g []).getD i 0)))] else intsF (imgM (x.own.getD g []) (imgs.getD g []) (allM x.own imgs g) i) j) = intsF (imgM (x.own.getD g []) (imgs.getD g []) (allM x.own imgs g) (i + 1)) j
  rw [a5, hst j, hsu]
  rfl
end Go.Proofs.Ytojaakpnpdnbhaa.L

/- The law functions over policies answer true. -/
set_option linter.unusedVariables false
set_option linter.unusedSimpArgs false
set_option maxRecDepth 100000
namespace Go.Proofs.Ytojaakpnpdnbhaa.L
open Go.RowKit Go.ChangeShapes Go.WideShapes Go.ChangeAt
theorem reads_owns : ReadsT Try.prog 22 1 (List (List Int)) (fun l => [owns l]) (fun l => l.length * 24 ≤ reachBytes ∧ ∀ x ∈ l, okInts x) := ReadsT.slice reads_ints Try.underlying22 (by kernel_rfl) (by decide) [] (by kernel_rfl)
theorem reads_Lane : ReadsT Try.prog 171 5 LaneM laneD (fun p => ok64 p.frm ∧ ok64 p.to ∧ ok64 p.page ∧ ok64 p.af ∧ ok64 p.at_) :=
  (ReadsT.struct (ok := _) Try.underlying171 (by kernel_rfl) (ReadsL.cons reads_int64 (.cons reads_int64 (.cons reads_int64 (.cons reads_int64 (.cons reads_int64 (.nil 5))))))).map (fun m => ⟨m.1, m.2.1, m.2.2.1, m.2.2.2.1, m.2.2.2.2.1⟩) (fun m h => ⟨⟨h.1, h.2.1, h.2.2.1, h.2.2.2.1, h.2.2.2.2.1⟩, rfl⟩)
theorem reads_lanes : ReadsT Try.prog 23 1 (List LaneM) (fun l => [lanes l]) (fun l => l.length * 40 ≤ reachBytes ∧ ∀ p ∈ l, ok64 p.frm ∧ ok64 p.to ∧ ok64 p.page ∧ ok64 p.af ∧ ok64 p.at_) := ReadsT.slice reads_Lane Try.underlying23 (by kernel_rfl) (by decide) ⟨0, 0, 0, 0, 0⟩ (by kernel_rfl)
theorem reads_Bell : ReadsT Try.prog 175 2 BellM bellD (fun p => ok64 p.frm ∧ ok64 p.to) :=
  (ReadsT.struct (ok := _) Try.underlying175 (by kernel_rfl) (ReadsL.cons reads_int64 (.cons reads_int64 (.nil 2)))).map (fun m => ⟨m.1, m.2.1⟩) (fun m h => ⟨⟨h.1, h.2.1⟩, rfl⟩)
theorem reads_bells : ReadsT Try.prog 24 1 (List BellM) (fun l => [bells l]) (fun l => l.length * 16 ≤ reachBytes ∧ ∀ p ∈ l, ok64 p.frm ∧ ok64 p.to) := ReadsT.slice reads_Bell Try.underlying24 (by kernel_rfl) (by decide) ⟨0, 0⟩ (by kernel_rfl)
theorem reads_Slot : ReadsT Try.prog 179 2 SlotM slotD (fun p => ok64 p.guest ∧ ok64 p.steps) :=
  (ReadsT.struct (ok := _) Try.underlying179 (by kernel_rfl) (ReadsL.cons reads_int64 (.cons reads_int64 (.nil 2)))).map (fun m => ⟨m.1, m.2.1⟩) (fun m h => ⟨⟨h.1, h.2.1⟩, rfl⟩)
theorem reads_slots : ReadsT Try.prog 25 1 (List SlotM) (fun l => [slots l]) (fun l => l.length * 16 ≤ reachBytes ∧ ∀ p ∈ l, ok64 p.guest ∧ ok64 p.steps) := ReadsT.slice reads_Slot Try.underlying25 (by kernel_rfl) (by decide) ⟨0, 0⟩ (by kernel_rfl)
structure PolM.ok (x : PolM) : Prop where
  own : x.own.length * 24 ≤ reachBytes ∧ ∀ r ∈ x.own, okInts r
  lns : x.lns.length * 40 ≤ reachBytes ∧ ∀ p ∈ x.lns, ok64 p.frm ∧ ok64 p.to ∧ ok64 p.page ∧ ok64 p.af ∧ ok64 p.at_
  bls : x.bls.length * 16 ≤ reachBytes ∧ ∀ p ∈ x.bls, ok64 p.frm ∧ ok64 p.to
  pln : x.pln.length * 16 ≤ reachBytes ∧ ∀ p ∈ x.pln, ok64 p.guest ∧ ok64 p.steps
theorem PolM.ok.small {x : PolM} (h : x.ok) : x.small := by
  have e := reach_eq
  have a := h.own.1
  have b := h.lns.1
  have c := h.bls.1
  have d := h.pln.1
  refine ⟨by omega, fun i hi => ?_, by omega, by omega, by omega⟩
  have := (h.own.2 (x.own.getD i []) (by rw [getD_at _ hi]; exact List.getElem_mem hi)).1
  omega
theorem reads_Policy : ReadsT Try.prog 27 4 PolM polD PolM.ok :=
  (ReadsT.struct (ok := _) Try.underlying27 (by kernel_rfl) (ReadsL.cons reads_owns (.cons reads_lanes (.cons reads_bells (.cons reads_slots (.nil 4)))))).map (fun m => ⟨m.1, m.2.1, m.2.2.1, m.2.2.2.1⟩) (fun m h => ⟨⟨h.1, h.2.1, h.2.2.1, h.2.2.2.1⟩, rfl⟩)
theorem szP_of {x : PolM} {q : Int} (h : decide (szP x q < 0) = false) : (x.size : Int) ≤ q := by
  have h := of_decide_eq_false h
  unfold szP at h
  split at h <;> omega
end Go.Proofs.Ytojaakpnpdnbhaa.L

/- Images in the memory of a host, as the reference has them: contracts. -/
set_option linter.unusedVariables false
set_option linter.unusedSimpArgs false
set_option maxRecDepth 100000
namespace Go.Proofs.Ytojaakpnpdnbhaa.L
open Go.RowKit
theorem c_spec_l7Images (x : PolM) (hs : x.small) (imgs : List (List Int)) (hI : imgs.length ≤ 1048576) (hI2 : ∀ i, i < imgs.length → (imgs.getD i []).length ≤ 1048576) (h5 : ∀ i, i < x.own.length → (x.own.getD i []).length ≤ 5) : FnOK Try.prog 77 [polP x, .d (owns imgs)] (ri (imgCode x.own imgs)) := by
  obtain ⟨r, hr⟩ : ∃ r, r = imgCode x.own imgs := ⟨_, rfl⟩
  rw [← hr]
  unfold imgCode at hr
  refine fn_of lv77 Try.func77 rfl rfl (by kernel_rfl) rfl ?_
  refine bsplit_intro (fun h2 => ?_) (fun h2 => ?_)
  · have h2 : ¬ imgs.length = x.own.length := by simp at h2; omega
    rw [if_neg h2] at hr
    subst hr
    exact ⟨⟨rfl, trivial⟩, rfl⟩
  have h2 : imgs.length = x.own.length := by simp at h2; omega
  rw [if_pos h2] at hr
  refine ⟨{ g : Nat // g ≤ x.own.length ∧ tooLong x.own imgs g = false }, fun g => ⟨frL [(0, polP x), (1, .d (owns imgs)), (5, di g.1)], hpL [], 0, 0⟩, fun g => x.own.length - g.1, ⟨0, by omega, rfl⟩,
    le_of [] rfl rfl rfl rfl trivial (tellFr_x rfl ⟨DLe.refl _, DLe.refl _, DLe.refl _, DLe.refl _, trivial⟩ (tellFr_d rfl (DLe.refl _) (tellFr_v rfl rfl trivial))), ?_⟩
  rintro ⟨g, hg, hlong⟩
  by_cases hg2 : g < x.own.length
  rotate_left
  · obtain rfl : g = x.own.length := by omega
    rw [hlong] at hr
    have hr : r = 0 := hr
    subst hr
    refine bsplit_of_false (decide_eq_false (show ¬ (x.own.length : Int) < (imgs.length : Int) by omega)) ?_
    exact ⟨⟨rfl, trivial⟩, rfl⟩
  have hr5 := h5 g hg2
  have hwr := congrArg (Value.int .i64) (wrap1 hg2 (by omega))
  have hw8 : IntKind.i64.wrap (((x.own.getD g []).length : Int) * 8) = ((x.own.getD g []).length : Int) * 8 := wrap_i64 _ (by omega) (by omega)
  refine bsplit_of_true (decide_eq_true (show (g : Int) < (imgs.length : Int) by omega)) ?_
  refine ask_intro ⟨by omega, by show (g : Int) < (imgs.length : Int); omega, rfl⟩ ?_
  refine ask_intro ⟨by omega, by show (g : Int) < (x.own.length : Int); omega, rfl⟩ ?_
  refine chk_intro (by kernel_rfl) ?_
  by_cases hlen : (x.own.getD g []).length * 8 < (imgs.getD g []).length
  · rw [if_pos (tooLong_hit hg2 hlen)] at hr
    have hr : r = 8 := hr
    subst hr
    refine bsplit_of_true (decide_eq_true (show ((imgs.getD g []).length : Int) > IntKind.i64.wrap (((x.own.getD g []).length : Int) * 8) by rw [hw8]; omega)) ?_
    exact ⟨⟨rfl, trivial⟩, rfl⟩
  have hlong2 : tooLong x.own imgs (g + 1) = false := by rw [tooLong_succ, hlong, decide_eq_false hlen]; rfl
  refine bsplit_of_false (decide_eq_false (show ¬ ((imgs.getD g []).length : Int) > IntKind.i64.wrap (((x.own.getD g []).length : Int) * 8) by rw [hw8]; omega)) ?_
  exact ⟨⟨g + 1, by omega, hlong2⟩, le_of [] rfl rfl rfl rfl trivial (tellFr_x rfl ⟨DLe.refl _, DLe.refl _, DLe.refl _, DLe.refl _, trivial⟩ (tellFr_d rfl (DLe.refl _) (tellFr_v rfl hwr trivial))), by show x.own.length - (g + 1) < x.own.length - g; omega⟩
theorem c_spec_l7Load (x : PolM) (hs : x.small) (imgs : List (List Int)) (hI2 : ∀ i, i < imgs.length → (imgs.getD i []).length ≤ 1048576) (hrow : ∀ i, i < x.own.length → (x.own.getD i []).length ≤ 5 ∧ ∀ p ∈ x.own.getD i [], 0 ≤ p ∧ p ≤ 23) (h2 : imgs.length = x.own.length) (hfew : x.own.length ≤ 3) (hl : tooLong x.own imgs x.own.length = false) :
    FnOK Try.prog 78 [polP x, .d (owns imgs)] (.r (.one (oInts (allM x.own imgs x.own.length)))) := by
  refine fn_of lv78 Try.func78 rfl rfl (by kernel_rfl) rfl ?_
  refine ask_intro ⟨rfl, by decide, by decide, by decide⟩ ?_
  refine ⟨{ g : Nat // g ≤ x.own.length }, fun g => ⟨frL [(0, polP x), (1, .d (owns imgs)), (5, .row 66), (6, di g.1)], hpL [(66, .row 2 1 192 (intsF (allM x.own imgs g.1)))], 97, 0⟩, fun g => x.own.length - g.1, ⟨0, by omega⟩,
    le_of [(66, 4096)] rfl rfl rfl rfl (tellHp_row rfl rfl rfl (fun j hj => ?_) tellHp_nil) (tellFr_x rfl ⟨DLe.refl _, DLe.refl _, DLe.refl _, DLe.refl _, trivial⟩ (tellFr_d rfl (DLe.refl _) (tellFr_row rfl rfl (tellFr_v rfl rfl trivial)))), ?_⟩
  · have hj : j < 192 := hj
    show [D.v (.int .i64 0)] = intsF (List.replicate 192 0) j
    have e : (List.replicate 192 (0 : Int)).getD j 0 = 0 := by simp only [List.getD, List.getElem?_replicate, if_pos hj, Option.getD_some]
    simp only [intsF, e]
  rintro ⟨g, hg⟩
  by_cases hg2 : g < x.own.length
  rotate_left
  · obtain rfl : g = x.own.length := by omega
    refine bsplit_of_false (decide_eq_false (show ¬ (x.own.length : Int) < (imgs.length : Int) by omega)) ?_
    exact ⟨⟨⟨rfl, rfl, (allM_len _ _ _).symm, fun j hj => ⟨rfl, rfl⟩⟩, trivial⟩, rfl⟩
  obtain ⟨hr5, hrp⟩ := hrow g hg2
  have hwr := congrArg (Value.int .i64) (wrap1 hg2 (by omega))
  have hlen := tooLong_at hl hg2
  refine bsplit_of_true (decide_eq_true (show (g : Int) < (imgs.length : Int) by omega)) ?_
  refine ⟨{ i : Nat // i ≤ (imgs.getD g []).length }, fun i => ⟨frL [(0, polP x), (1, .d (owns imgs)), (5, .row 66), (6, di g), (7, di i.1)], hpL [(66, .row 2 1 192 (intsF (imgM (x.own.getD g []) (imgs.getD g []) (allM x.own imgs g) i.1)))], 97, 0⟩, fun i => (imgs.getD g []).length - i.1, ⟨0, by omega⟩,
    le_of [(66, 66)] rfl rfl rfl rfl (tellHp_row rfl rfl rfl (fun j hj => rfl) tellHp_nil) (tellFr_x rfl ⟨DLe.refl _, DLe.refl _, DLe.refl _, DLe.refl _, trivial⟩ (tellFr_d rfl (DLe.refl _) (tellFr_row rfl rfl (tellFr_v rfl rfl (tellFr_v rfl rfl trivial))))), ?_⟩
  rintro ⟨i, hi⟩
  by_cases hi2 : i < (imgs.getD g []).length
  rotate_left
  · obtain rfl : i = (imgs.getD g []).length := by omega
    refine ask_intro ⟨by omega, by show (g : Int) < (imgs.length : Int); omega, rfl⟩ ?_
    refine bsplit_of_false (decide_eq_false (show ¬ ((imgs.getD g []).length : Int) < ((imgs.getD g []).length : Int) by omega)) ?_
    exact ⟨⟨g + 1, by omega⟩, le_of [(66, 66)] rfl rfl rfl rfl (tellHp_row rfl rfl rfl (fun j hj => rfl) tellHp_nil) (tellFr_x rfl ⟨DLe.refl _, DLe.refl _, DLe.refl _, DLe.refl _, trivial⟩ (tellFr_d rfl (DLe.refl _) (tellFr_row rfl rfl (tellFr_v rfl hwr trivial)))), by show x.own.length - (g + 1) < x.own.length - g; omega⟩
  obtain ⟨⟨a1, a2⟩, a3, a4⟩ := img_place (own := x.own.getD g []) (i := i) (by omega) hr5 hrp
  have hwi := congrArg (Value.int .i64) (wrap1 hi2 (by have := hI2 g (by omega); omega))
  have hml : (imgM (x.own.getD g []) (imgs.getD g []) (allM x.own imgs g) i).length = 192 := by rw [imgM_len, allM_len]
  have hst := set_intsF (imgM (x.own.getD g []) (imgs.getD g []) (allM x.own imgs g) i) (plI (x.own.getD g []) i) (wrapW ((imgs.getD g []).getD i 0)) (by omega)
  have hsu := imgM_succ (x.own.getD g []) (imgs.getD g []) (allM x.own imgs g) i
  have a5 : (IntKind.i64.wrap (IntKind.i64.wrap ((x.own.getD g []).getD (IntKind.i64.wrap (Int.tdiv (i : Int) 8)).toNat 0 * 8) + Int.tmod (i : Int) 8)).toNat = plI (x.own.getD g []) i := by rw [a3]; rfl
  refine ask_intro ⟨by omega, by show (g : Int) < (imgs.length : Int); omega, rfl⟩ ?_
  refine bsplit_of_true (decide_eq_true (show (i : Int) < ((imgs.getD g []).length : Int) by omega)) ?_
  refine ask_intro ⟨by omega, by show (g : Int) < (x.own.length : Int); omega, rfl⟩ ?_
  refine ask_intro (by decide) ?_
  refine ask_intro ⟨a1, a2, rfl⟩ ?_
  refine ask_intro (by decide) ?_
  refine ask_intro ⟨by omega, by show (g : Int) < (imgs.length : Int); omega, rfl⟩ ?_
  refine ask_intro ⟨by omega, by show (i : Int) < ((imgs.getD g []).length : Int); omega, rfl⟩ ?_
  refine .inl ⟨_, _, rfl, c_spec_WrapWord ((imgs.getD g []).getD i 0), rfl, ?_⟩
  refine ask_intro ⟨by show 0 ≤ IntKind.i64.wrap (IntKind.i64.wrap ((x.own.getD g []).getD (IntKind.i64.wrap (Int.tdiv (i : Int) 8)).toNat 0 * 8) + Int.tmod (i : Int) 8); omega, by show IntKind.i64.wrap (IntKind.i64.wrap ((x.own.getD g []).getD (IntKind.i64.wrap (Int.tdiv (i : Int) 8)).toNat 0 * 8) + Int.tmod (i : Int) 8) < ((192 : Nat) : Int); omega⟩ ?_
  refine ask_intro (by show (IntKind.i64.wrap (IntKind.i64.wrap ((x.own.getD g []).getD (IntKind.i64.wrap (Int.tdiv (i : Int) 8)).toNat 0 * 8) + Int.tmod (i : Int) 8)).toNat < 192; omega) ?_
  refine ⟨⟨i + 1, by omega⟩, le_of [(66, 66)] rfl rfl rfl rfl (tellHp_row rfl rfl rfl (fun j hj => ?_) tellHp_nil) (tellFr_x rfl ⟨DLe.refl _, DLe.refl _, DLe.refl _, DLe.refl _, trivial⟩ (tellFr_d rfl (DLe.refl _) (tellFr_row rfl rfl (tellFr_v rfl rfl (tellFr_v rfl hwi trivial))))), by show (imgs.getD g []).length - (i + 1) < (imgs.getD g []).length - i; omega⟩
  show (if j = (IntKind.i64.wrap (IntKind.i64.wrap ((x.own.getD g []).getD (IntKind.i64.wrap (Int.tdiv (i : Int) 8)).toNat 0 * 8) + Int.tmod (i : Int) 8)).toNat then splice (intsF (imgM (x.own.getD g []) (imgs.getD g []) (allM x.own imgs g) i) j) 0 [.v (.int .i64 (wrapW ((imgs.getD g []).getD i 0)))] else intsF (imgM (x.own.getD g []) (imgs.getD g []) (allM x.own imgs g) i) j) = intsF (imgM (x.own.getD g []) (imgs.getD g []) (allM x.own imgs g) (i + 1)) j
  rw [a5, hst j, hsu]
  rfl
theorem imgCode_ok {own imgs : List (List Int)} (h : imgCode own imgs = 0) : imgs.length = own.length ∧ tooLong own imgs own.length = false := by
  unfold imgCode at h
  split at h
  · split at h
    · exact absurd h (by decide)
    · rename_i h1 h2; exact ⟨h1, by simpa using h2⟩
  · exact absurd h (by decide)
theorem c_spec_LoadImages (x : PolM) (hs : x.small) (imgs : List (List Int)) (hI : imgs.length ≤ 1048576) (hI2 : ∀ i, i < imgs.length → (imgs.getD i []).length ≤ 1048576) : FnOK Try.prog 13 [polLV x, .d (owns imgs)] (.r (irsR (loadImages x imgs))) := by
  have c1 := c_spec_l6Fault x hs
  have c2 := fun h : polFault x = 0 => c_spec_l7Images x hs imgs hI hI2 (fun i hi => (pol_row h i hi).1)
  have c3 := fun (h : polFault x = 0) (h2 : imgCode x.own imgs = 0) => c_spec_l7Load x hs imgs hI2 (pol_row h) (imgCode_ok h2).1 (pol_few h).2 (imgCode_ok h2).2
  obtain ⟨r, hr⟩ : ∃ r, r = loadImages x imgs := ⟨_, rfl⟩
  rw [← hr]
  unfold loadImages at hr
  generalize polFault x = e at *
  generalize imgCode x.own imgs = e2 at *
  refine fn_of lv13 Try.func13 rfl rfl (by kernel_rfl) rfl ?_
  refine .inl ⟨_, _, rfl, c1, rfl, ?_⟩
  refine bsplit_intro (fun h => ?_) (fun h => ?_)
  · rw [if_neg (by simpa using h)] at hr
    subst hr
    exact ⟨⟨rfl, ⟨rfl, rfl⟩, trivial⟩, rfl⟩
  have h : e = 0 := by simpa using h
  rw [if_pos h] at hr
  refine .inl ⟨_, _, rfl, c2 h, rfl, ?_⟩
  refine bsplit_intro (fun h2 => ?_) (fun h2 => ?_)
  · rw [if_neg (by simpa using h2)] at hr
    subst hr
    exact ⟨⟨rfl, ⟨rfl, rfl⟩, trivial⟩, rfl⟩
  have h2 : e2 = 0 := by simpa using h2
  rw [if_pos h2] at hr
  subst hr
  refine .inl ⟨_, _, rfl, c3 h h2, rfl, ?_⟩
  exact ⟨⟨rfl, ⟨rfl, rfl, rfl, fun j hj => ⟨rfl, rfl⟩⟩, trivial⟩, rfl⟩
theorem c_laws_eqMemoryResult (p q : Int × List Int) (hs : p.2.length ≤ 9223372036854775807) : FnOK Try.prog 17 [irsLV p, irsLV q] (rb (decide (p = q))) := by
  refine fn_of lv17 Try.func17 rfl rfl (by kernel_rfl) rfl ?_
  repeat' (first | refine bsplit_true ?_ | refine bsplit_false ?_ | refine .inl ⟨_, _, rfl, c_laws_eqInt64S p.2 q.2 hs, rfl, ?_⟩ | refine bsplit_intro (fun h => ?_) (fun h => ?_))
  all_goals refine ⟨⟨congrArg Value.bool ?_, trivial⟩, rfl⟩
  all_goals (obtain ⟨a1, a2⟩ := p; obtain ⟨b1, b2⟩ := q; simp_all)
theorem c_laws_markMemoryResult (p : Int × List Int) (k : Int) (hf : p.2.length ≤ 1099511627776) (hk : 0 ≤ k) (hk2 : k ≤ 1099511627776) : MutOK Try.prog 22 [.agg [di p.1, .row 0], di k] 1 [(0, rowE p.2)] (di (k + p.2.length)) 1 [(0, rowM p.2 k)] := by
  refine mut_fn_of lv22 Try.func22 rfl rfl (by kernel_rfl) rfl [] ?_
  refine .inr ⟨rfl, use_mut ⟨_, _, _, _, _, _, rfl, rfl, c_laws_markInt64S p.2 k hf hk hk2, rfl, ?_⟩⟩
  exact chk_intro (by kernel_rfl) ⟨tellV_v rfl rfl, tellHp_row rfl rfl rfl (fun j hj => rfl) tellHp_nil⟩
theorem c_laws_heldMemoryResult (p : Int × List Int) (k : Int) (hf : p.2.length ≤ 1099511627776) (hk : 0 ≤ k) (hk2 : k ≤ 1099511627776) : FnOK Try.prog 23 [.agg [di p.1, datM p.2 k], di k] (ri (k + p.2.length)) := by
  refine fn_of lv23 Try.func23 rfl rfl (by kernel_rfl) rfl ?_
  refine .inl ⟨_, _, rfl, c_laws_heldInt64S k p.2.length hf hk hk2, rfl, ?_⟩
  refine bsplit_of_false (decide_eq_false (show ¬ k + (p.2.length : Int) < 0 by omega)) ?_
  exact ⟨⟨rfl, trivial⟩, rfl⟩
abbrev okIntss (l : List (List Int)) : Prop := l.length * 24 ≤ reachBytes ∧ ∀ x ∈ l, okInts x
theorem okIntss_in {l : List (List Int)} (h : okIntss l) : ∀ i, i < l.length → (l.getD i []).length * 8 ≤ 140737488355328 := by
  intro i hi
  have := (h.2 (l.getD i []) (by rw [getD_at _ hi]; exact List.getElem_mem _)).1
  rw [reach_eq] at this
  omega
theorem szO_of {l : List (List Int)} {q : Int} (h : decide (szO l q < 0) = false) : ((l.length + sumN l : Nat) : Int) ≤ q := by
  have h := of_decide_eq_false h
  unfold szO at h
  split at h <;> omega
theorem szP_eq {x : PolM} {q : Int} (h : decide (szP x q < 0) = false) : szP x q = q - (x.size : Int) := by
  have h := of_decide_eq_false h
  unfold szP at h ⊢
  split at h
  · omega
  · rename_i h2; rw [if_neg h2]
theorem intss_len {l : List (List Int)} {q : Int} (h : ((l.length + sumN l : Nat) : Int) ≤ q) : ∀ i, i < l.length → ((l.getD i []).length : Int) ≤ q := by
  intro i hi
  have := sumN_get l i hi
  omega
theorem intss_b (l : List (List Int)) (k : Int) {q : Int} (hf : ((l.length + sumN l : Nat) : Int) ≤ q) (h1 : 0 ≤ k) (h2 : k ≤ 1073741824) : 0 ≤ k + (sumN l : Nat) ∧ k + (sumN l : Nat) ≤ k + q := by omega
end Go.Proofs.Ytojaakpnpdnbhaa.L

/- The law function FnExactLoadImages answers true. -/
set_option linter.unusedVariables false
set_option linter.unusedSimpArgs false
set_option maxRecDepth 100000
namespace Go.Proofs.Ytojaakpnpdnbhaa.L
open Go.RowKit
set_option maxHeartbeats 1600000 in
theorem c_laws_FnExactLoadImages (x0 : PolM) (x1 : List (List Int)) (ho_x0 : x0.ok) (ho_x1 : okIntss x1) : FnOK Try.prog 3 [polLV x0, .d (owns x1)] (rb true) := by
  have hs_x0 := ho_x0.small
  have hl24_x1 : x1.length * 24 ≤ 140737488355328 := by have := ho_x1.1; rw [reach_eq] at this; omega
  have hl8_x1 : ∀ i, i < x1.length → (x1.getD i []).length * 8 ≤ 140737488355328 := okIntss_in ho_x1
  refine fn_of lv3 Try.func3 rfl rfl (by kernel_rfl) rfl ?_
  refine .inl ⟨_, _, rfl, c_laws_szPolicy x0 hs_x0 (1048576) (by omega) (by omega), rfl, ?_⟩
  refine bsplit_intro (fun h => ?_) (fun h => ?_)
  · exact ⟨⟨rfl, trivial⟩, rfl⟩
  have hf_x0 : (x0.size : Int) ≤ 1048576 := szP_of h
  have hq_x0 := szP_eq h
  refine .inl ⟨_, _, rfl, c_laws_szInt64SS x1 hl24_x1 hl8_x1 (szP x0 (1048576)) (by omega) (by omega), rfl, ?_⟩
  refine bsplit_intro (fun h => ?_) (fun h => ?_)
  · exact ⟨⟨rfl, trivial⟩, rfl⟩
  have hf_x1 := szO_of h
  have hg_x1 := intss_len hf_x1
  have cs := c_spec_LoadImages x0 hs_x0 x1 (by omega) (fun i hi => by have := hg_x1 i hi; omega)
  have ci := c_impl_LoadImages x0 hs_x0 x1 (by omega) (fun i hi => by have := hg_x1 i hi; omega)
  have hf := loadImages_few x0 x1
  obtain ⟨p, hp⟩ : ∃ p, p = loadImages x0 x1 := ⟨_, rfl⟩
  rw [← hp] at cs ci hf
  have hkp : 0 ≤ 1 + (p.2.length : Int) := by omega
  have hk : ¬ 1 + (p.2.length : Int) < 0 := by omega
  have hb0 := polK_b x0 (1) hf_x0 (by omega) (by omega)
  have hb1 := intss_b x1 (polK x0 (1)) hf_x1 hb0.1 (by have := hb0.2; omega)
  refine .inl ⟨_, _, rfl, c_laws_toPolicy x0 hs_x0, rfl, ?_⟩
  repeat' (first | refine bsplit_true ?_ | refine bsplit_false ?_ | refine chk_intro (by kernel_rfl) ?_ | refine bsplit_of_false (by simp; done) ?_)
  refine .inl ⟨_, _, rfl, c_laws_toInt64SS x1 hl24_x1 hl8_x1, rfl, ?_⟩
  repeat' (first | refine bsplit_true ?_ | refine bsplit_false ?_ | refine chk_intro (by kernel_rfl) ?_ | refine bsplit_of_false (by simp; done) ?_)
  refine .inl ⟨_, _, rfl, cs, rfl, ?_⟩
  repeat' (first | refine bsplit_true ?_ | refine bsplit_false ?_ | refine chk_intro (by kernel_rfl) ?_ | refine bsplit_of_false (by simp; done) ?_)
  refine .inl ⟨_, _, rfl, c_laws_toPolicy x0 hs_x0, rfl, ?_⟩
  repeat' (first | refine bsplit_true ?_ | refine bsplit_false ?_ | refine chk_intro (by kernel_rfl) ?_ | refine bsplit_of_false (by simp; done) ?_)
  refine .inl ⟨_, _, rfl, c_laws_toInt64SS x1 hl24_x1 hl8_x1, rfl, ?_⟩
  repeat' (first | refine bsplit_true ?_ | refine bsplit_false ?_ | refine chk_intro (by kernel_rfl) ?_ | refine bsplit_of_false (by simp; done) ?_)
  refine .inl ⟨_, _, rfl, ci, rfl, ?_⟩
  repeat' (first | refine bsplit_true ?_ | refine bsplit_false ?_ | refine chk_intro (by kernel_rfl) ?_ | refine bsplit_of_false (by simp; done) ?_)
  refine .inl ⟨_, _, rfl, c_laws_eqMemoryResult p p (by omega), rfl, ?_⟩
  repeat' (first | refine bsplit_true ?_ | refine bsplit_false ?_ | refine chk_intro (by kernel_rfl) ?_ | refine bsplit_of_false (by simp; done) ?_)
  refine .inl ⟨_, _, rfl, c_laws_toPolicy x0 hs_x0, rfl, ?_⟩
  repeat' (first | refine bsplit_true ?_ | refine bsplit_false ?_ | refine chk_intro (by kernel_rfl) ?_ | refine bsplit_of_false (by simp; done) ?_)
  refine .inl ⟨_, _, rfl, c_laws_eqPolicy x0 x0 hs_x0, rfl, ?_⟩
  repeat' (first | refine bsplit_true ?_ | refine bsplit_false ?_ | refine chk_intro (by kernel_rfl) ?_ | refine bsplit_of_false (by simp; done) ?_)
  refine .inl ⟨_, _, rfl, c_laws_toInt64SS x1 hl24_x1 hl8_x1, rfl, ?_⟩
  repeat' (first | refine bsplit_true ?_ | refine bsplit_false ?_ | refine chk_intro (by kernel_rfl) ?_ | refine bsplit_of_false (by simp; done) ?_)
  refine .inl ⟨_, _, rfl, c_laws_eqInt64SS x1 x1 (by omega) (fun i hi => by have := hl8_x1 i hi; omega), rfl, ?_⟩
  repeat' (first | refine bsplit_true ?_ | refine bsplit_false ?_ | refine chk_intro (by kernel_rfl) ?_ | refine bsplit_of_false (by simp; done) ?_)
  refine .inr ⟨rfl, use_mut ⟨_, _, _, _, _, _, rfl, rfl, c_laws_markPolicy x0 (1) hf_x0 (by omega) (by omega), rfl, ?_⟩⟩
  repeat' (first | refine bsplit_true ?_ | refine bsplit_false ?_ | refine chk_intro (by kernel_rfl) ?_)
  refine .inr ⟨rfl, use_mut ⟨_, _, _, _, _, _, rfl, rfl, c_laws_markInt64SS x1 (polK x0 (1)) (by omega) (by omega) hb0.1 (by have := hb0.2; omega), rfl, ?_⟩⟩
  repeat' (first | refine bsplit_true ?_ | refine bsplit_false ?_ | refine chk_intro (by kernel_rfl) ?_)
  try refine bsplit_of_false (decide_eq_false (show ¬ ((polK x0 (1)) + (sumN x1 : Nat)) < 0 by have := hb1.1; omega)) ?_
  repeat' (first | refine bsplit_true ?_ | refine bsplit_false ?_ | refine chk_intro (by kernel_rfl) ?_ | refine bsplit_of_false (by simp; done) ?_)
  refine .inl ⟨_, _, rfl, c_laws_eqMemoryResult p p (by omega), rfl, ?_⟩
  repeat' (first | refine bsplit_true ?_ | refine bsplit_false ?_ | refine chk_intro (by kernel_rfl) ?_ | refine bsplit_of_false (by simp; done) ?_)
  refine .inr ⟨rfl, use_mut ⟨_, _, _, _, _, _, rfl, rfl, c_laws_markMemoryResult p 1 (by omega) (by omega) (by omega), rfl, ?_⟩⟩
  repeat' (first | refine bsplit_true ?_ | refine bsplit_false ?_ | refine chk_intro (by kernel_rfl) ?_)
  refine .inl ⟨_, _, rfl, c_laws_heldMemoryResult p 1 (by omega) (by omega) (by omega), rfl, ?_⟩
  repeat' (first | refine bsplit_true ?_ | refine bsplit_false ?_ | refine chk_intro (by kernel_rfl) ?_)
  try refine bsplit_of_false (decide_eq_false hk) ?_
  repeat' (first | refine bsplit_true ?_ | refine bsplit_false ?_ | refine chk_intro (by kernel_rfl) ?_ | refine bsplit_of_false (by simp; done) ?_)
  refine .inl ⟨_, _, rfl, c_laws_toPolicy x0 hs_x0, rfl, ?_⟩
  repeat' (first | refine bsplit_true ?_ | refine bsplit_false ?_ | refine chk_intro (by kernel_rfl) ?_ | refine bsplit_of_false (by simp; done) ?_)
  refine .inl ⟨_, _, rfl, c_laws_toInt64SS x1 hl24_x1 hl8_x1, rfl, ?_⟩
  repeat' (first | refine bsplit_true ?_ | refine bsplit_false ?_ | refine chk_intro (by kernel_rfl) ?_ | refine bsplit_of_false (by simp; done) ?_)
  refine .inl ⟨_, _, rfl, ci, rfl, ?_⟩
  repeat' (first | refine bsplit_true ?_ | refine bsplit_false ?_ | refine chk_intro (by kernel_rfl) ?_ | refine bsplit_of_false (by simp; done) ?_)
  refine .inl ⟨_, _, rfl, c_laws_eqMemoryResult p p (by omega), rfl, ?_⟩
  repeat' (first | refine bsplit_true ?_ | refine bsplit_false ?_ | refine chk_intro (by kernel_rfl) ?_ | refine bsplit_of_false (by simp; done) ?_)
  refine .inl ⟨_, _, rfl, c_laws_heldMemoryResult p 1 (by omega) (by omega) (by omega), rfl, ?_⟩
  repeat' (first | refine bsplit_true ?_ | refine bsplit_false ?_ | refine chk_intro (by kernel_rfl) ?_)
  try refine bsplit_of_false (decide_eq_false hk) ?_
  repeat' (first | refine bsplit_true ?_ | refine bsplit_false ?_ | refine chk_intro (by kernel_rfl) ?_ | refine bsplit_of_false (by simp; done) ?_)
  exact ⟨⟨rfl, trivial⟩, rfl⟩

end Go.Proofs.Ytojaakpnpdnbhaa.L

/- The law FnExactLoadImages answers true at every input that its statement lets in. -/
set_option linter.unusedVariables false
set_option maxRecDepth 100000
namespace Go.Proofs.Ytojaakpnpdnbhaa.L.FnExactLoadImages
open Go.RowKit Go.ChangeShapes Go.WideShapes Go.ChangeAt
theorem lifted (os : Os) (started : os.Started) (H : Type) (enc : TypeId × Value → H) :
    ReturnsInHanded {} Try.checked os 3 .any (Rows.fnExactLoadImagesSpec.pre6 enc Try.prog Try.f3 Rows.fnExactLoadImagesRow.domain false) (Rows.fnExactLoadImagesSpec.post enc Try.prog Try.f3 false true false false) := by
  refine returnsInHanded_of_change_sized (C := Try.checked) own started (by kernel_rfl) Try.func3
    (ChangeSpec.witness6 (enc := enc) (C := Try.checked) false ⟨#[], #[.agg #[.slice none 0 0, .slice none 0 0, .slice none 0 0, .slice none 0 0], .slice none 0 0], []⟩ 8 (by kernel_rfl) (by kernel_rfl) (by kernel_rfl) (by kernel_rfl)) ?_
  intro W base args ds gs before hval0 hW hcnd hsz0 _
  have hsz : (DataW.weightsEach Try.prog (Try.f3.params.toList ++ Rows.fnExactLoadImagesSpec.plain.varTypes Try.prog) (ds ++ gs)).all (· ≤ reachBytes) = true := hsz0
  have hval : ∀ (j : Nat) t v, Try.f3.params[j]? = some t → args[j]? = some v → Value.okWide Try.prog W .any base t v := hval0
  have hW' := hW
  obtain ⟨p, q, hA0, hV, rfl, hfz, hnd⟩ := hW
  have hA : DataW.TrodAll enc Try.prog W 0 (fun _ => true) true Try.f3.params.toList args.toList ds p := hA0
  rw [Try.params3] at hA hval hsz
  obtain ⟨v0, vs0, d0, ds0, p0, q0, hargs, rfl, rfl, h0, r0⟩ := trodAll_cons hA
  obtain ⟨v1, vs1, d1, ds1, p1, q1, rfl, rfl, rfl, h1, r1⟩ := trodAll_cons r0
  obtain ⟨rfl, rfl, rfl⟩ := trodAll_nil r1
  obtain rfl : args = #[v0, v1] := by cases args; simp_all
  obtain ⟨rfl, rfl⟩ := trodVars_none hV
  have hsm : ∀ k ∈ DataW.weightsEach Try.prog ([27, 22] ++ Rows.fnExactLoadImagesSpec.plain.varTypes Try.prog) ([d0, d1] ++ []), k ≤ reachBytes := fun k hk => by simpa using List.all_eq_true.1 hsz k hk
  have k0 := h0
  have lt0 : ∀ x ∈ p0, x.block < W.heap.size := by obtain ⟨m, hm⟩ := k0; exact DataW.trod_lt m _ _ _ hm
  obtain ⟨m0, hm0, hvr0⟩ := reads_Policy.agg Try.underlying27 (hval 0 27 v0 rfl rfl) h0 (fun k hk => hsm k (DataW.weights_mem_each (j := 0) rfl rfl k hk))
  have k1 := h1
  have lt1 : ∀ x ∈ p1, x.block < W.heap.size := by obtain ⟨m, hm⟩ := k1; exact DataW.trod_lt m _ _ _ hm
  have c1 : v1.cells = #[v1] := by have z := okWide_slice Try.underlying22 (hval 1 22 v1 rfl rfl); (first | (obtain ⟨_, rfl⟩ := z; rfl) | (obtain ⟨_, _, _, rfl⟩ := z; rfl))
  obtain ⟨m1, hm1, hvr1⟩ := reads_owns.one c1 h1 (fun k hk => hsm k (DataW.weights_mem_each (j := 1) rfl rfl k hk))
  refine ((c_laws_FnExactLoadImages m0 m1 hm0 hm1).calls W (Mem W) [v0, v1] (fun b hb => hb) rfl (fun j hj => ?_)).mono fun e W' ⟨v, he, bel, hrr⟩ => ?_
  · match j, hj with
    | 0, _ => exact hvr0
    | 1, _ => exact hvr1
    | j + 2, hj => exact absurd hj (by simp)
  · obtain ⟨us, J, hl, rfl, hJ, hok, _, _⟩ := hrr.ex
    have h1 := hok 0 _ rfl
    have h2 : RV.val us (rb true) = .bool true := h1
    rw [h2] at he
    subst he
    exact ⟨_, rfl, _, _, _, [], _, [], hW', trodAll_mk1 (shut_bool Try.underlying4 _), (trodAll_cons_mk (Below.trod laidOut (by kernel_rfl) (of_decide_eq_true (by kernel_rfl)) k0 bel lt0) (trodAll_cons_mk (Below.trod laidOut (by kernel_rfl) (of_decide_eq_true (by kernel_rfl)) k1 bel lt1) trodAll_mk0)), rfl, bel.frame _, fun h => by cases h⟩
theorem over : Rows.fnExactLoadImagesRow.holds Try.pinned (OpenSpec.ofChange Rows.fnExactLoadImagesSpec) :=
  OpenClaim.holds_of_wide 3 Try.f3 rfl rfl rfl rfl rfl rfl rfl ⟨rfl, rfl, rfl, rfl, rfl⟩ rfl rfl rfl rfl rfl (by kernel_rfl) Try.func3 (by kernel_rfl)
    (of_decide_eq_true (by kernel_rfl)) (by unfold Func.isWrapper; first | (rw [if_pos (by decide +kernel)]; kernel_rfl) | (rw [if_neg (by decide +kernel)]; exact ⟨rfl, rfl⟩))
    (fun os started H enc _ => lifted os started H enc)
end Go.Proofs.Ytojaakpnpdnbhaa.L.FnExactLoadImages
namespace Go.Proofs.Ytojaakpnpdnbhaa
theorem fnExactLoadImages_holds : Rows.FnExactLoadImagesSaid := L.FnExactLoadImages.over
#print axioms fnExactLoadImages_holds
end Go.Proofs.Ytojaakpnpdnbhaa
