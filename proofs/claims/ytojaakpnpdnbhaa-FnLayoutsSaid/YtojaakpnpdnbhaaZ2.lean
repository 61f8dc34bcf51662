/- The symbolic logic and the contracts that the proof leans on, part 2. -/
import Derived.Test.YtojaakpnpdnbhaaMc
import Derived.Test.YtojaakpnpdnbhaaZ1
/- The words of a guest: contracts. -/
set_option linter.unusedVariables false
set_option linter.unusedSimpArgs false
set_option maxRecDepth 100000
namespace Go.Proofs.Ytojaakpnpdnbhaa.L
open Go.RowKit
theorem c_impl_pagesOf (m ps : List Int) (hm : m.length ≤ 1048576) (hn : ps.length ≤ 1048576) (h : ∀ p ∈ ps, 0 ≤ p ∧ (p + 1) * 8 ≤ m.length) : FnOK Try.prog 95 [.d (ints m), .d (ints ps)] (.r (.one (oInts (wordsL m ps)))) := by
  refine fn_of lv95 Try.func95 rfl rfl (by kernel_rfl) rfl ?_
  refine ⟨{ i : Nat // i ≤ ps.length }, fun i => ⟨frL [(0, .d (ints m)), (5, .row 96), (9, .d (ints ps)), (10, di ps.length), (11, di i.1)], hpL [(96, rowE (wordsL m (ps.take i.1)))], 97, 0⟩, fun i => ps.length - i.1, ⟨0, by omega⟩,
    le_of [(96, 4096)] rfl rfl rfl rfl (tellHp_row rfl rfl (by simp [wordsL]) (fun j hj => absurd hj (by omega)) tellHp_nil) (tellFr_d rfl (DLe.refl _) (tellFr_row rfl rfl (tellFr_d rfl (DLe.refl _) (tellFr_v rfl rfl (tellFr_v rfl rfl trivial))))), ?_⟩
  rintro ⟨i, hi⟩
  refine bsplit_intro (fun hb => ?_) (fun hb => ?_)
  · have hb : i < ps.length := by simp at hb; exact hb
    have hpm : ps.getD i 0 ∈ ps := by simp [List.getD, List.getElem?_eq_getElem hb]
    have et : ps.take (i + 1) = ps.take i ++ [ps.getD i 0] := by rw [List.take_add_one]; simp [List.getD, List.getElem?_eq_getElem hb]
    have hlt := wordsL_len m (ps.take i) (fun q hq => h q (List.mem_of_mem_take hq))
    have ew : wordsL m (ps.take (i + 1)) = wordsL m (ps.take i) ++ pageW m (ps.getD i 0) := by rw [et]; simp [wordsL]
    obtain ⟨hp, hp2⟩ := h _ hpm
    have hpl := pageW_len m _ hp hp2
    have hlt2 : (wordsL m (ps.take i)).length ≤ 8388608 := by rw [hlt, List.length_take]; omega
    refine ask_intro ⟨by omega, by show (i : Int) < (ps.length : Int); omega, rfl⟩ ?_
    refine .inl ⟨_, _, rfl, c_impl_pageOf m (ps.getD i 0) hp (by omega) hp2, rfl, ?_⟩
    refine ask_intro ⟨by show ((wordsL m (ps.take i)).length + (pageW m (ps.getD i 0)).length) * 8 ≤ 140737488355328; omega, by show (wordsL m (ps.take i)).length + (pageW m (ps.getD i 0)).length ≤ 9223372036854775807; omega, fun j hj => rfl⟩ ?_
    refine ⟨⟨i + 1, by omega⟩, le_of [(96, 8417)] rfl rfl rfl rfl (tellHp_row rfl rfl ?_ (fun j hj => ?_) tellHp_nil) (tellFr_d rfl (DLe.refl _) (tellFr_row rfl rfl (tellFr_d rfl (DLe.refl _) (tellFr_v rfl rfl (tellFr_v rfl (congrArg (Value.int .i64) (wrap1 hb (by omega))) trivial))))), by show ps.length - (i + 1) < ps.length - i; omega⟩
    · show (wordsL m (ps.take i)).length + (pageW m (ps.getD i 0)).length = (wordsL m (ps.take (i + 1))).length
      rw [ew, List.length_append]
    · have hj : j < (wordsL m (ps.take i)).length + (pageW m (ps.getD i 0)).length := hj
      show upto (wordsL m (ps.take i)).length (intsF (wordsL m (ps.take i))) (intsF (pageW m (ps.getD i 0))) j = intsF (wordsL m (ps.take (i + 1))) j
      rw [ew]
      exact upto_app _ _ _ (fun q hq => rfl) j hj
  · simp at hb
    have e : i = ps.length := by omega
    subst e
    refine ⟨⟨⟨rfl, rfl, ?_, fun j hj => ⟨?_, rfl⟩⟩, trivial⟩, rfl⟩
    · show (wordsL m (ps.take ps.length)).length = _
      rw [List.take_length]
    · show intsF (wordsL m (ps.take ps.length)) j = _
      rw [List.take_length]
def wordsOf (x : PolM) (m : List Int) (g : Int) : Int × List Int := if askedG x g = 0 then (bif !wholeB m then (1, []) else (0, wordsL m (x.own.getD g.toNat []))) else (askedG x g, [])
theorem own_row {x : PolM} {g : Int} (h : askedG x g = 0) : 0 ≤ g ∧ g < x.own.length ∧ (x.own.getD g.toNat []).length ≤ 5 ∧ ∀ p ∈ x.own.getD g.toNat [], 0 ≤ p ∧ p ≤ 23 := by
  unfold askedG at h
  split at h
  · rename_i hp
    cases hb : guestB x.own.length g with
    | false => rw [hb] at h; simp at h
    | true =>
      have hg := inR_iff.1 (show inR g 0 ((x.own.length : Int) - 1) = true from hb)
      have ho : ownBad x.own = 0 := by
        unfold polFault at hp
        split at hp
        · assumption
        · rename_i e; exact absurd hp e
      have hf : firstNZ (x.own.map rowBad) = 0 := by
        unfold ownBad at ho
        cases hq : inR (x.own.length : Int) 1 3 with
        | false => rw [hq] at ho; simp at ho
        | true =>
          rw [hq] at ho
          have ho : (if firstNZ (x.own.map rowBad) = 0 then (bif dupS [] x.own.flatten then (6 : Int) else 0) else firstNZ (x.own.map rowBad)) = 0 := ho
          split at ho
          · assumption
          · rename_i e; exact absurd ho e
      have hi : g.toNat < x.own.length := by omega
      have hr := firstNZ_all hf (rowBad (x.own.getD g.toNat [])) (List.mem_map.2 ⟨_, by rw [getD_at _ hi]; exact List.getElem_mem hi, rfl⟩)
      refine ⟨hg.1, by omega, row_len hf hi, fun p hpm => ?_⟩
      unfold rowBad at hr
      cases hq : inR ((x.own.getD g.toNat []).length : Int) 1 5 with
      | false => rw [hq] at hr; simp at hr
      | true =>
        rw [hq] at hr
        cases ha : (x.own.getD g.toNat []).all in23 with
        | false => rw [ha] at hr; simp at hr
        | true => exact inR_iff.1 (List.all_eq_true.1 ha p hpm)
  · rename_i e; exact absurd h e
theorem whole_len {m : List Int} (h : wholeB m = true) : (m.length : Int) = 192 := by
  unfold wholeB at h
  rw [Bool.and_eq_true] at h
  simpa using h.2
theorem wordsOf_few (x : PolM) (m : List Int) (g : Int) : (wordsOf x m g).2.length ≤ 1048576 := by
  unfold wordsOf
  split
  · rename_i h
    obtain ⟨h1, h2, h3, h4⟩ := own_row h
    cases hw : wholeB m with
    | false => simp
    | true =>
      have hm := whole_len hw
      have := wordsL_len m (x.own.getD g.toNat []) (fun p hp => by have := h4 p hp; omega)
      show (wordsL m (x.own.getD g.toNat [])).length ≤ 1048576
      omega
  · simp
theorem c_spec_WordsOf (x : PolM) (hs : x.small) (m : List Int) (hm : m.length ≤ 1048576) (g : Int) : FnOK Try.prog 24 [polLV x, .d (ints m), di g] (.r (irsR (wordsOf x m g))) := by
  have c1 := c_spec_l6Asked x hs g
  have c2 := c_spec_l7Whole m hm
  have ow := @own_row x g
  have wl := @whole_len m
  obtain ⟨r, hr⟩ : ∃ r, r = wordsOf x m g := ⟨_, rfl⟩
  rw [← hr]
  unfold wordsOf at hr
  generalize askedG x g = e at *
  refine fn_of lv24 Try.func24 rfl rfl (by kernel_rfl) rfl ?_
  refine .inl ⟨_, _, rfl, c1, rfl, ?_⟩
  refine bsplit_intro (fun h => ?_) (fun h => ?_)
  · rw [if_neg (by simpa using h)] at hr
    subst hr
    exact ⟨⟨rfl, ⟨rfl, rfl⟩, trivial⟩, rfl⟩
  have h : e = 0 := by simpa using h
  rw [if_pos h] at hr
  obtain ⟨q1, q2, q3, q4⟩ := ow h
  refine .inl ⟨_, _, rfl, c2, rfl, ?_⟩
  refine bsplit_intro (fun h2 => ?_) (fun h2 => ?_)
  · rw [show (!wholeB m) = true from h2] at hr
    have hr : r = (1, []) := hr
    subst hr
    exact ⟨⟨rfl, ⟨rfl, rfl⟩, trivial⟩, rfl⟩
  rw [show (!wholeB m) = false from h2] at hr
  have hr : r = (0, wordsL m (x.own.getD g.toNat [])) := hr
  have hw := wl (by simpa using h2)
  subst hr
  refine ask_intro ⟨q1, q2, rfl⟩ ?_
  refine .inl ⟨_, _, rfl, c_spec_l7Words m (x.own.getD g.toNat []) hm (by omega) (fun p hp => by have := q4 p hp; omega), rfl, ?_⟩
  exact ⟨⟨rfl, ⟨rfl, rfl, rfl, fun j hj => ⟨rfl, rfl⟩⟩, trivial⟩, rfl⟩
theorem c_impl_WordsOf (x : PolM) (hs : x.small) (m : List Int) (hm : m.length ≤ 1048576) (g : Int) : FnOK Try.prog 26 [polLV x, .d (ints m), di g] (.r (irsR (wordsOf x m g))) := by
  have c1 := c_impl_guestFault x hs g
  have c2 := c_impl_isWhole m hm
  have ow := @own_row x g
  have wl := @whole_len m
  obtain ⟨r, hr⟩ : ∃ r, r = wordsOf x m g := ⟨_, rfl⟩
  rw [← hr]
  unfold wordsOf at hr
  generalize askedG x g = e at *
  refine fn_of lv26 Try.func26 rfl rfl (by kernel_rfl) rfl ?_
  refine .inl ⟨_, _, rfl, c1, rfl, ?_⟩
  refine bsplit_intro (fun h => ?_) (fun h => ?_)
  · rw [if_neg (by simpa using h)] at hr
    subst hr
    exact ⟨⟨rfl, ⟨rfl, rfl⟩, trivial⟩, rfl⟩
  have h : e = 0 := by simpa using h
  rw [if_pos h] at hr
  obtain ⟨q1, q2, q3, q4⟩ := ow h
  refine .inl ⟨_, _, rfl, c2, rfl, ?_⟩
  refine bsplit_intro (fun h2 => ?_) (fun h2 => ?_)
  · rw [show (!wholeB m) = true from h2] at hr
    have hr : r = (1, []) := hr
    subst hr
    exact ⟨⟨rfl, ⟨rfl, rfl⟩, trivial⟩, rfl⟩
  rw [show (!wholeB m) = false from h2] at hr
  have hr : r = (0, wordsL m (x.own.getD g.toNat [])) := hr
  have hw := wl (by simpa using h2)
  subst hr
  refine ask_intro ⟨q1, q2, rfl⟩ ?_
  refine .inl ⟨_, _, rfl, c_impl_pagesOf m (x.own.getD g.toNat []) hm (by omega) (fun p hp => by have := q4 p hp; omega), rfl, ?_⟩
  exact ⟨⟨rfl, ⟨rfl, rfl, rfl, fun j hj => ⟨rfl, rfl⟩⟩, trivial⟩, rfl⟩
end Go.Proofs.Ytojaakpnpdnbhaa.L

/- The pages of a guest: contracts. -/
set_option linter.unusedVariables false
set_option linter.unusedSimpArgs false
set_option maxRecDepth 100000
namespace Go.Proofs.Ytojaakpnpdnbhaa.L
open Go.RowKit
abbrev du (n : Int) : LV := .d (.v (.int .u64 n))
theorem c_bits_Mul64_18 : FnOK Try.prog 207 [du 1, du 8] (.tup [.one (.v (.int .u64 0)), .one (.v (.int .u64 8))]) := by
  refine fn_of lv207 Try.func207 rfl rfl (by kernel_rfl) rfl ?_
  repeat' (first | refine ask_intro (by decide) ?_ | refine bsplit_true ?_ | refine bsplit_false ?_)
  exact ⟨⟨rfl, rfl, trivial⟩, rfl⟩
theorem c_bits_Mul_18 : FnOK Try.prog 199 [du 1, du 8] (.tup [.one (.v (.int .u64 0)), .one (.v (.int .u64 8))]) := by
  refine fn_of lv199 Try.func199 rfl rfl (by kernel_rfl) rfl ?_
  repeat' (first | refine ask_intro (by decide) ?_ | refine bsplit_true ?_ | refine bsplit_false ?_)
  refine .inl ⟨_, _, rfl, c_bits_Mul64_18, rfl, ?_⟩
  exact ⟨⟨rfl, rfl, trivial⟩, rfl⟩
/-- so many of a page, what is behind them 0 -/
abbrev repF (p : PageM) (n : Nat) (i : Nat) : List D := if i < n then pageD p else [.v (.int .i64 0), .v (.int .i64 0)]
theorem c_slices_Repeat_Page (p : PageM) (f : Nat → List D) (hf : f 0 = pageD p) : FnOK Try.prog 161 [.d (.l 1 f), di 8] (.r (.one (.own 133 2 8 (fun _ => pageD p)))) := by
  refine fn_of lv161 Try.func161 rfl rfl (by kernel_rfl) rfl ?_
  repeat' (first | refine bsplit_true ?_ | refine bsplit_false ?_)
  refine .inl ⟨_, _, rfl, c_bits_Mul_18, rfl, ?_⟩
  repeat' (first | refine bsplit_true ?_ | refine bsplit_false ?_)
  refine ask_intro ⟨rfl, by decide, by decide, by decide⟩ ?_
  refine ask_intro (fun i hi => ?_) ?_
  · obtain rfl : i = 0 := by have h2 : i < 1 := hi; omega
    rw [hf]
    rfl
  refine ⟨{ i : Nat // 1 ≤ i ∧ i ≤ 8 }, fun i => ⟨frL [(7, .row 96), (8, di i.1)], hpL [(96, .row 133 2 8 (repF p i.1))], 97, 0⟩, fun i => 8 - i.1, ⟨1, by omega, by omega⟩,
    le_of [(96, 16448)] rfl rfl rfl rfl (tellHp_row rfl rfl rfl (fun j hj => ?_) tellHp_nil) (tellFr_row rfl rfl (tellFr_v rfl rfl trivial)), ?_⟩
  · show (if 0 ≤ j ∧ j < 0 + 1 then f (j - 0) else [.v (.int .i64 0), .v (.int .i64 0)]) = repF p 1 j
    by_cases h : j < 1
    · obtain rfl : j = 0 := by omega
      rw [if_pos (by omega)]
      simpa [repF] using hf
    · rw [if_neg (by omega)]
      simp only [repF, h, if_false]
  rintro ⟨i, h1, h2⟩
  by_cases h : i < 8
  · have e1 : (0 + (i : Int).toNat) - (0 + (0 : Int).toNat) = i := by simp
    have e2 : (0 + ((8 : Nat) : Int).toNat) - (0 + (i : Int).toNat) = 8 - i := by simp
    have hm : 1 ≤ Nat.min i (8 - i) ∧ Nat.min i (8 - i) ≤ 8 - i := ⟨Nat.le_min.2 ⟨h1, by omega⟩, Nat.min_le_right _ _⟩
    have hm2 : Nat.min i (8 - i) ≤ i := Nat.min_le_left _ _
    generalize hM : Nat.min i (8 - i) = M at hm hm2
    refine bsplit_of_true (decide_eq_true (show (i : Int) < ((8 : Nat) : Int) by omega)) ?_
    refine ask_intro ⟨by omega, by show (i : Int) ≤ ((8 : Nat) : Int); omega, by show ((0 : Nat) : Int) + ((8 : Nat) : Int) ≤ ((8 : Nat) : Int); omega, .inr rfl⟩ ?_
    refine ask_intro ⟨by omega, by omega, by show ((0 : Nat) : Int) + (i : Int) ≤ ((8 : Nat) : Int); omega, .inr rfl⟩ ?_
    refine ask_intro (fun j hj => ?_) ?_
    · show (repF p i (0 + (0 : Int).toNat + j)).length = 2
      simp only [repF]; split <;> rfl
    refine chk_intro (by kernel_rfl) ?_
    refine ⟨⟨i + M, by omega, by omega⟩, le_of [(96, 96)] rfl rfl rfl rfl (tellHp_row rfl rfl rfl (fun j hj => ?_) tellHp_nil) (tellFr_row rfl rfl (tellFr_v rfl (congrArg (Value.int .i64) ?_) trivial)), by show 8 - (i + M) < 8 - i; omega⟩
    · show (if 0 + (i : Int).toNat ≤ j ∧ j < 0 + (i : Int).toNat + Nat.min ((0 + (i : Int).toNat) - (0 + (0 : Int).toNat)) ((0 + ((8 : Nat) : Int).toNat) - (0 + (i : Int).toNat)) then repF p i (0 + (0 : Int).toNat + (j - (0 + (i : Int).toNat))) else repF p i j) = repF p (i + M) j
      rw [e1, e2, hM]
      simp only [Int.toNat_natCast, Nat.zero_add, Int.toNat_zero, repF]
      by_cases c1 : i ≤ j ∧ j < i + M
      · rw [if_pos c1, if_pos (by omega), if_pos (by omega)]
      · rw [if_neg c1]
        by_cases c2 : j < i
        · rw [if_pos c2, if_pos (by omega)]
        · rw [if_neg c2, if_neg (by omega)]
    · show IntKind.i64.wrap ((i : Int) + ((Nat.min ((0 + (i : Int).toNat) - (0 + (0 : Int).toNat)) ((0 + ((8 : Nat) : Int).toNat) - (0 + (i : Int).toNat)) : Nat) : Int)) = ((i + M : Nat) : Int)
      rw [e1, e2, hM]
      exact (wrap_i64 _ (by omega) (by omega)).trans (by omega)
  · refine bsplit_of_false (decide_eq_false (show ¬ (i : Int) < ((8 : Nat) : Int) by omega)) ?_
    obtain rfl : i = 8 := by omega
    refine ⟨⟨⟨rfl, rfl, rfl, fun j hj => ⟨?_, rfl⟩⟩, trivial⟩, rfl⟩
    show repF p 8 j = pageD p
    rw [repF, if_pos hj]
end Go.Proofs.Ytojaakpnpdnbhaa.L

/- What the functions compute that read pages out of words: contracts. -/
set_option linter.unusedVariables false
set_option linter.unusedSimpArgs false
set_option maxRecDepth 100000
namespace Go.Proofs.Ytojaakpnpdnbhaa.L
open Go.RowKit
abbrev pageR (p : PageM) : RV1 := .agg [.v (.int .i64 p.to), .v (.int .i64 p.kinds)]
theorem c_spec_l4None : FnOK Try.prog 160 [] (.r (pageR ⟨-1, 0⟩)) := by
  refine fn_of lv160 Try.func160 rfl rfl (by kernel_rfl) rfl ?_
  exact ⟨⟨rfl, rfl, trivial⟩, rfl⟩
theorem c_impl_nowhere : FnOK Try.prog 162 [] (.r (pageR ⟨-1, 0⟩)) := by
  refine fn_of lv162 Try.func162 rfl rfl (by kernel_rfl) rfl ?_
  exact ⟨⟨rfl, rfl, trivial⟩, rfl⟩
def entryP (w : Int) : PageM := bif (Int.tmod w 8 == 0) || decide (IntKind.i64.wrap (Int.tdiv w 8) ≥ 8) then ⟨-1, 0⟩ else ⟨IntKind.i64.wrap (Int.tdiv w 8), Int.tmod w 8⟩
abbrev pgsR (p : Int × List PageM) : RV1 := .agg [.v (.int .i64 p.1), oPages p.2]
abbrev pgsLV (p : Int × List PageM) : LV := .agg [di p.1, .d (pages p.2)]
def pagesFrom (l : List Int) : Int × List PageM := bif (l.length : Int) != 8 then (1, []) else bif !l.all isW then (3, []) else (0, l.map entryP)
theorem app_pages (l : List PageM) (p : PageM) (i : Nat) (h : i < l.length + 1) : upto l.length (pagesF l) (fun i => ([pageD p] : List (List D)).getD i []) i = pagesF (l ++ [p]) i := by
  unfold upto
  show _ = pageD ((l ++ [p]).getD i ⟨0, 0⟩)
  split
  · rename_i h; show pageD (l.getD i ⟨0, 0⟩) = _; simp [List.getD, List.getElem?_append, h]
  · have : i = l.length := by omega
    subst this
    simp [List.getD]
theorem one_len2 (p : PageM) (i : Nat) (hi : i < 1) : (([pageD p] : List (List D)).getD i []).length = 2 := by
  obtain rfl : i = 0 := by omega
  rfl
theorem take_mapG {α β : Type} (d : α) (f : α → β) (l : List α) (i : Nat) (h : i < l.length) : (l.map f).take i ++ [f (l.getD i d)] = (l.map f).take (i + 1) := by
  rw [List.take_add_one, List.getElem?_map, List.getElem?_eq_getElem h, getD_at d h]
  rfl
def rowOr (k : Nat) : Nat → LV
  | 0 => dv (.slice none 0 0)
  | _ + 1 => .row k
end Go.Proofs.Ytojaakpnpdnbhaa.L

/- The pages of a guest, as the host has them: contracts. -/
set_option linter.unusedVariables false
set_option linter.unusedSimpArgs false
set_option maxRecDepth 100000
namespace Go.Proofs.Ytojaakpnpdnbhaa.L
open Go.RowKit
def laneSet (g : Int) (out : List PageM) (l : LaneM) : List PageM := if l.to = g then (if l.frm = g then out.set l.af.toNat ⟨l.page, 3⟩ else out).set l.at_.toNat ⟨l.page, 1⟩ else if l.frm = g then out.set l.af.toNat ⟨l.page, 3⟩ else out
theorem laneSet_len (g : Int) (out : List PageM) (l : LaneM) : (laneSet g out l).length = out.length := by
  unfold laneSet
  split <;> split <;> simp
def ownS (l : List Int) (k : Nat) : List PageM := (l.take k).map (fun p => ⟨p, 7⟩) ++ List.replicate (8 - k) ⟨-1, 0⟩
theorem ownS_len (l : List Int) (k : Nat) (hk : k ≤ l.length) (h8 : k ≤ 8) : (ownS l k).length = 8 := by simp [ownS]; omega
theorem ownS_step (l : List Int) (k : Nat) (hk : k < l.length) (h8 : k < 8) : (ownS l k).set k ⟨l.getD k 0, 7⟩ = ownS l (k + 1) := by
  have hl : ((l.take k).map (fun p => (⟨p, 7⟩ : PageM))).length = k := by simp; omega
  have h8' : 8 - k = (8 - (k + 1)) + 1 := by omega
  unfold ownS
  rw [List.set_append_right _ _ (by omega), hl, Nat.sub_self, h8', List.replicate_succ, List.set_cons_zero, take_snoc 0 l k hk, List.map_append, List.append_assoc]
  rfl
def pagesP (x : PolM) (g : Int) : List PageM := x.lns.foldl (laneSet g) (ownS (x.own.getD g.toNat []) (x.own.getD g.toNat []).length)
theorem fold_len (g : Int) : ∀ (l : List LaneM) (S : List PageM), (l.foldl (laneSet g) S).length = S.length
  | [], S => rfl
  | m :: l, S => by rw [List.foldl_cons, fold_len g l, laneSet_len]
theorem pagesP_len {x : PolM} {g : Int} (h : (x.own.getD g.toNat []).length ≤ 5) : (pagesP x g).length = 8 := by
  unfold pagesP
  rw [fold_len, ownS_len _ _ (Nat.le_refl _) (by omega)]
theorem set_pagesF (S : List PageM) (i : Nat) (p : PageM) (hi : i < S.length) (j : Nat) : (if j = i then splice (pagesF S j) 0 [.v (.int .i64 p.to), .v (.int .i64 p.kinds)] else pagesF S j) = pagesF (S.set i p) j := by
  by_cases h : j = i
  · subst h
    rw [if_pos rfl]
    have e : (S.set j p).getD j ⟨0, 0⟩ = p := by simp [List.getD, hi]
    simp only [pagesF, e]
    rfl
  · rw [if_neg h]
    have e : (S.set i p).getD j ⟨0, 0⟩ = S.getD j ⟨0, 0⟩ := by simp [List.getD, List.getElem?_set_ne (Ne.symm h)]
    simp only [pagesF, e]
theorem none_get {r : List Int} (j : Nat) (hj : j < 8) : pagesF (ownS r 0) j = pageD ⟨-1, 0⟩ := by
  have e : (ownS r 0).getD j ⟨0, 0⟩ = ⟨-1, 0⟩ := by
    simp only [ownS, List.take_zero, List.map_nil, List.nil_append, Nat.sub_zero]
    simp only [List.getD, List.getElem?_replicate, if_pos hj, Option.getD_some]
  simp only [pagesF, e]
/-- the places of lanes in a policy that is right -/
def LnsOK (x : PolM) : Prop := ∀ m ∈ x.lns, (5 ≤ m.af ∧ m.af ≤ 6) ∧ (5 ≤ m.at_ ∧ m.at_ ≤ 6) ∧ (0 ≤ m.page ∧ m.page ≤ 23)
theorem lanesBad_ok {own : List (List Int)} : ∀ {l ahead : List LaneM}, lanesBad own ahead l = 0 → ∀ m ∈ l, (5 ≤ m.af ∧ m.af ≤ 6) ∧ (5 ≤ m.at_ ∧ m.at_ ≤ 6) ∧ (0 ≤ m.page ∧ m.page ≤ 23)
  | [], _, _, m, hm => by simp at hm
  | q :: l, ahead, h, m, hm => by
    simp only [lanesBad] at h
    have hb : laneBad own q ahead = 0 := by
      split at h
      · assumption
      · rename_i e; exact absurd h e
    rw [if_pos hb] at h
    rcases List.mem_cons.1 hm with rfl | hm
    · unfold laneBad at hb
      split at hb
      · cases h1 : inR m.page 0 23 with
        | false => rw [h1] at hb; simp at hb
        | true =>
          cases h2 : inR m.af 5 6 with
          | false => rw [h1, h2] at hb; simp at hb
          | true =>
            cases h3 : inR m.at_ 5 6 with
            | false => rw [h1, h2, h3] at hb; simp at hb
            | true => exact ⟨inR_iff.1 h2, inR_iff.1 h3, inR_iff.1 h1⟩
      · rename_i e; exact absurd hb e
    · exact lanesBad_ok h m hm
theorem lns_ok {x : PolM} (h : polFault x = 0) : LnsOK x := fun m hm => lanesBad_ok (pol_lanes h) m hm
set_option maxHeartbeats 1600000 in
theorem c_impl_Policy_pagesFor (x : PolM) (hs : x.small) (g : Int) (hg : 0 ≤ g) (hg2 : g < x.own.length) (h5 : (x.own.getD g.toNat []).length ≤ 5) (hl : LnsOK x) : FnOK Try.prog 97 [polP x, di g] (.r (.one (oPages (pagesP x g)))) := by
  have hsl := hs.lns
  have hV8 := pagesP_len h5
  obtain ⟨V, hV⟩ : ∃ V, V = pagesP x g := ⟨_, rfl⟩
  rw [← hV] at hV8 ⊢
  unfold pagesP at hV
  refine fn_of lv97 Try.func97 rfl rfl (by kernel_rfl) rfl ?_
  refine .inl ⟨_, _, rfl, c_impl_nowhere, rfl, ?_⟩
  refine .inl ⟨_, _, rfl, c_slices_Repeat_Page ⟨-1, 0⟩ _ rfl, rfl, ?_⟩
  refine ask_intro ⟨hg, hg2, rfl⟩ ?_
  refine ⟨{ i : Nat // i ≤ (x.own.getD g.toNat []).length }, fun i => ⟨frL [(0, polP x), (1, di g), (5, .row 96), (19, .d (ints (x.own.getD g.toNat []))), (20, di (x.own.getD g.toNat []).length), (21, di i.1)], hpL [(96, .row 133 2 8 (pagesF (ownS (x.own.getD g.toNat []) i.1)))], 97, 0⟩, fun i => (x.own.getD g.toNat []).length - i.1, ⟨0, by omega⟩,
    le_of [(96, 4160)] rfl rfl rfl rfl (tellHp_row rfl rfl rfl (fun j hj => (none_get j hj).symm) tellHp_nil) (tellFr_x rfl ⟨DLe.refl _, DLe.refl _, DLe.refl _, DLe.refl _, trivial⟩ (tellFr_v rfl rfl (tellFr_row rfl rfl (tellFr_d rfl (DLe.refl _) (tellFr_v rfl rfl (tellFr_v rfl rfl trivial)))))), ?_⟩
  rintro ⟨k, hk⟩
  by_cases hk2 : k < (x.own.getD g.toNat []).length
  · have est := ownS_step (x.own.getD g.toNat []) k hk2 (by omega)
    have esl := ownS_len (x.own.getD g.toNat []) k hk (by omega)
    refine bsplit_of_true (decide_eq_true (show (k : Int) < ((x.own.getD g.toNat []).length : Int) by omega)) ?_
    refine ask_intro ⟨by omega, by show (k : Int) < ((x.own.getD g.toNat []).length : Int); omega, rfl⟩ ?_
    refine ask_intro ⟨by omega, by show (k : Int) < ((8 : Nat) : Int); omega⟩ ?_
    refine ask_intro (by show k < 8; omega) ?_
    exact ⟨⟨k + 1, by omega⟩, le_of [(96, 96)] rfl rfl rfl rfl (tellHp_row rfl rfl rfl (fun j hj => (set_pagesF (ownS (x.own.getD g.toNat []) k) k ⟨(x.own.getD g.toNat []).getD k 0, 7⟩ (by omega) j).trans (by rw [est])) tellHp_nil) (tellFr_x rfl ⟨DLe.refl _, DLe.refl _, DLe.refl _, DLe.refl _, trivial⟩ (tellFr_v rfl rfl (tellFr_row rfl rfl (tellFr_d rfl (DLe.refl _) (tellFr_v rfl rfl (tellFr_v rfl (congrArg (Value.int .i64) (wrap1 hk2 (by omega))) trivial)))))), by show (x.own.getD g.toNat []).length - (k + 1) < (x.own.getD g.toNat []).length - k; omega⟩
  obtain rfl : k = (x.own.getD g.toNat []).length := by omega
  refine bsplit_of_false (decide_eq_false (show ¬ ((x.own.getD g.toNat []).length : Int) < ((x.own.getD g.toNat []).length : Int) by omega)) ?_
  refine ⟨{ p : Nat × List PageM // p.1 ≤ x.lns.length ∧ p.2.length = 8 ∧ V = (x.lns.drop p.1).foldl (laneSet g) p.2 }, fun p => ⟨frL [(1, di g), (5, .row 96), (35, .d (lanes x.lns)), (36, di x.lns.length), (37, di p.1.1)], hpL [(96, .row 133 2 8 (pagesF p.1.2))], 97, 0⟩, fun p => x.lns.length - p.1.1, ⟨(0, ownS (x.own.getD g.toNat []) (x.own.getD g.toNat []).length), by omega, ownS_len _ _ (Nat.le_refl _) (by omega), hV⟩,
    le_of [(96, 96)] rfl rfl rfl rfl (tellHp_row rfl rfl rfl (fun j hj => rfl) tellHp_nil) (tellFr_v rfl rfl (tellFr_row rfl rfl (tellFr_d rfl (DLe.refl _) (tellFr_v rfl rfl (tellFr_v rfl rfl trivial))))), ?_⟩
  rintro ⟨⟨k, S⟩, hk, hS, hall⟩
  simp only at hk hS hall
  by_cases hk2 : k < x.lns.length
  · rw [drop_consG ⟨0, 0, 0, 0, 0⟩ _ _ hk2, List.foldl_cons] at hall
    have hmem : x.lns.getD k ⟨0, 0, 0, 0, 0⟩ ∈ x.lns := by rw [getD_at _ hk2]; exact List.getElem_mem _
    obtain ⟨⟨a1, a2⟩, ⟨a3, a4⟩, _⟩ := hl _ hmem
    have hwr := congrArg (Value.int .i64) (wrap1 hk2 (by omega))
    have hl8 := laneSet_len g S (x.lns.getD k ⟨0, 0, 0, 0, 0⟩)
    have sp : ∀ (S : List PageM) (i : Nat) (p : PageM), S.length = 8 → i < 8 → ∀ j, (if j = i then splice (pagesF S j) 0 [.v (.int .i64 p.to), .v (.int .i64 p.kinds)] else pagesF S j) = pagesF (S.set i p) j := fun S i p h1 h2 j => set_pagesF S i p (by omega) j
    by_cases c1 : (x.lns.getD k ⟨0, 0, 0, 0, 0⟩).frm = g <;> by_cases c2 : (x.lns.getD k ⟨0, 0, 0, 0, 0⟩).to = g
    · have hstep : laneSet g S (x.lns.getD k ⟨0, 0, 0, 0, 0⟩) = (S.set (x.lns.getD k ⟨0, 0, 0, 0, 0⟩).af.toNat ⟨(x.lns.getD k ⟨0, 0, 0, 0, 0⟩).page, 3⟩).set (x.lns.getD k ⟨0, 0, 0, 0, 0⟩).at_.toNat ⟨(x.lns.getD k ⟨0, 0, 0, 0, 0⟩).page, 1⟩ := by unfold laneSet; rw [if_pos c2, if_pos c1]
      rw [hstep] at hall hl8
      have sp2 : ∀ j, (if j = (x.lns.getD k ⟨0, 0, 0, 0, 0⟩).at_.toNat then splice (if j = (x.lns.getD k ⟨0, 0, 0, 0, 0⟩).af.toNat then splice (pagesF S j) 0 [.v (.int .i64 (x.lns.getD k ⟨0, 0, 0, 0, 0⟩).page), .v (.int .i64 3)] else pagesF S j) 0 [.v (.int .i64 (x.lns.getD k ⟨0, 0, 0, 0, 0⟩).page), .v (.int .i64 1)] else if j = (x.lns.getD k ⟨0, 0, 0, 0, 0⟩).af.toNat then splice (pagesF S j) 0 [.v (.int .i64 (x.lns.getD k ⟨0, 0, 0, 0, 0⟩).page), .v (.int .i64 3)] else pagesF S j) = pagesF ((S.set (x.lns.getD k ⟨0, 0, 0, 0, 0⟩).af.toNat ⟨(x.lns.getD k ⟨0, 0, 0, 0, 0⟩).page, 3⟩).set (x.lns.getD k ⟨0, 0, 0, 0, 0⟩).at_.toNat ⟨(x.lns.getD k ⟨0, 0, 0, 0, 0⟩).page, 1⟩) j := fun j => by
        rw [sp S (x.lns.getD k ⟨0, 0, 0, 0, 0⟩).af.toNat ⟨(x.lns.getD k ⟨0, 0, 0, 0, 0⟩).page, 3⟩ hS (by omega) j]
        exact sp _ (x.lns.getD k ⟨0, 0, 0, 0, 0⟩).at_.toNat ⟨(x.lns.getD k ⟨0, 0, 0, 0, 0⟩).page, 1⟩ (by simpa using hS) (by omega) j
      refine bsplit_of_true (decide_eq_true (show (k : Int) < (x.lns.length : Int) by omega)) ?_
      refine ask_intro ⟨by omega, by show (k : Int) < (x.lns.length : Int); omega, rfl⟩ ?_
      refine bsplit_of_true (beq_iff_eq.2 c1) ?_
      refine ask_intro ⟨by show 0 ≤ (x.lns.getD k ⟨0, 0, 0, 0, 0⟩).af; omega, by show (x.lns.getD k ⟨0, 0, 0, 0, 0⟩).af < ((8 : Nat) : Int); omega⟩ ?_
      refine ask_intro (by show (x.lns.getD k ⟨0, 0, 0, 0, 0⟩).af.toNat < 8; omega) ?_
      refine bsplit_of_true (beq_iff_eq.2 c2) ?_
      refine ask_intro ⟨by show 0 ≤ (x.lns.getD k ⟨0, 0, 0, 0, 0⟩).at_; omega, by show (x.lns.getD k ⟨0, 0, 0, 0, 0⟩).at_ < ((8 : Nat) : Int); omega⟩ ?_
      refine ask_intro (by show (x.lns.getD k ⟨0, 0, 0, 0, 0⟩).at_.toNat < 8; omega) ?_
      exact ⟨⟨(k + 1, _), by show k + 1 ≤ _; omega, hl8.trans hS, hall⟩, le_of [(96, 96)] rfl rfl rfl rfl (tellHp_row rfl rfl rfl (fun j hj => sp2 j) tellHp_nil) (tellFr_v rfl rfl (tellFr_row rfl rfl (tellFr_d rfl (DLe.refl _) (tellFr_v rfl rfl (tellFr_v rfl hwr trivial))))), by show x.lns.length - (k + 1) < x.lns.length - k; omega⟩
    · have hstep : laneSet g S (x.lns.getD k ⟨0, 0, 0, 0, 0⟩) = S.set (x.lns.getD k ⟨0, 0, 0, 0, 0⟩).af.toNat ⟨(x.lns.getD k ⟨0, 0, 0, 0, 0⟩).page, 3⟩ := by unfold laneSet; rw [if_neg c2, if_pos c1]
      rw [hstep] at hall hl8
      refine bsplit_of_true (decide_eq_true (show (k : Int) < (x.lns.length : Int) by omega)) ?_
      refine ask_intro ⟨by omega, by show (k : Int) < (x.lns.length : Int); omega, rfl⟩ ?_
      refine bsplit_of_true (beq_iff_eq.2 c1) ?_
      refine ask_intro ⟨by show 0 ≤ (x.lns.getD k ⟨0, 0, 0, 0, 0⟩).af; omega, by show (x.lns.getD k ⟨0, 0, 0, 0, 0⟩).af < ((8 : Nat) : Int); omega⟩ ?_
      refine ask_intro (by show (x.lns.getD k ⟨0, 0, 0, 0, 0⟩).af.toNat < 8; omega) ?_
      refine bsplit_of_false (beq_eq_false_iff_ne.2 c2) ?_
      exact ⟨⟨(k + 1, _), by show k + 1 ≤ _; omega, hl8.trans hS, hall⟩, le_of [(96, 96)] rfl rfl rfl rfl (tellHp_row rfl rfl rfl (fun j hj => sp S (x.lns.getD k ⟨0, 0, 0, 0, 0⟩).af.toNat ⟨(x.lns.getD k ⟨0, 0, 0, 0, 0⟩).page, 3⟩ hS (by omega) j) tellHp_nil) (tellFr_v rfl rfl (tellFr_row rfl rfl (tellFr_d rfl (DLe.refl _) (tellFr_v rfl rfl (tellFr_v rfl hwr trivial))))), by show x.lns.length - (k + 1) < x.lns.length - k; omega⟩
    · have hstep : laneSet g S (x.lns.getD k ⟨0, 0, 0, 0, 0⟩) = S.set (x.lns.getD k ⟨0, 0, 0, 0, 0⟩).at_.toNat ⟨(x.lns.getD k ⟨0, 0, 0, 0, 0⟩).page, 1⟩ := by unfold laneSet; rw [if_pos c2, if_neg c1]
      rw [hstep] at hall hl8
      refine bsplit_of_true (decide_eq_true (show (k : Int) < (x.lns.length : Int) by omega)) ?_
      refine ask_intro ⟨by omega, by show (k : Int) < (x.lns.length : Int); omega, rfl⟩ ?_
      refine bsplit_of_false (beq_eq_false_iff_ne.2 c1) ?_
      refine bsplit_of_true (beq_iff_eq.2 c2) ?_
      refine ask_intro ⟨by show 0 ≤ (x.lns.getD k ⟨0, 0, 0, 0, 0⟩).at_; omega, by show (x.lns.getD k ⟨0, 0, 0, 0, 0⟩).at_ < ((8 : Nat) : Int); omega⟩ ?_
      refine ask_intro (by show (x.lns.getD k ⟨0, 0, 0, 0, 0⟩).at_.toNat < 8; omega) ?_
      exact ⟨⟨(k + 1, _), by show k + 1 ≤ _; omega, hl8.trans hS, hall⟩, le_of [(96, 96)] rfl rfl rfl rfl (tellHp_row rfl rfl rfl (fun j hj => sp S (x.lns.getD k ⟨0, 0, 0, 0, 0⟩).at_.toNat ⟨(x.lns.getD k ⟨0, 0, 0, 0, 0⟩).page, 1⟩ hS (by omega) j) tellHp_nil) (tellFr_v rfl rfl (tellFr_row rfl rfl (tellFr_d rfl (DLe.refl _) (tellFr_v rfl rfl (tellFr_v rfl hwr trivial))))), by show x.lns.length - (k + 1) < x.lns.length - k; omega⟩
    · have hstep : laneSet g S (x.lns.getD k ⟨0, 0, 0, 0, 0⟩) = S := by unfold laneSet; rw [if_neg c2, if_neg c1]
      rw [hstep] at hall hl8
      refine bsplit_of_true (decide_eq_true (show (k : Int) < (x.lns.length : Int) by omega)) ?_
      refine ask_intro ⟨by omega, by show (k : Int) < (x.lns.length : Int); omega, rfl⟩ ?_
      refine bsplit_of_false (beq_eq_false_iff_ne.2 c1) ?_
      refine bsplit_of_false (beq_eq_false_iff_ne.2 c2) ?_
      exact ⟨⟨(k + 1, S), by show k + 1 ≤ _; omega, hS, hall⟩, le_of [(96, 96)] rfl rfl rfl rfl (tellHp_row rfl rfl rfl (fun j hj => rfl) tellHp_nil) (tellFr_v rfl rfl (tellFr_row rfl rfl (tellFr_d rfl (DLe.refl _) (tellFr_v rfl rfl (tellFr_v rfl hwr trivial))))), by show x.lns.length - (k + 1) < x.lns.length - k; omega⟩
  obtain rfl : k = x.lns.length := by omega
  rw [List.drop_eq_nil_of_le (Nat.le_refl _)] at hall
  have hall : V = S := hall
  subst hall
  refine bsplit_of_false (decide_eq_false (show ¬ (x.lns.length : Int) < (x.lns.length : Int) by omega)) ?_
  exact ⟨⟨⟨rfl, rfl, hS.symm, fun j hj => ⟨rfl, rfl⟩⟩, trivial⟩, rfl⟩
end Go.Proofs.Ytojaakpnpdnbhaa.L

/- What the functions compute that draw a machine: contracts. -/
set_option linter.unusedVariables false
set_option linter.unusedSimpArgs false
set_option maxRecDepth 100000
namespace Go.Proofs.Ytojaakpnpdnbhaa.L
open Go.RowKit
structure HartM.drawn (m : HartM) : Prop where
  regs : m.regs.length = 16
  csr : m.csr.length = 11
  inp : m.inp.length ≤ 2
  out : m.out.length ≤ 40
abbrev hartN : List LV := [dv (.slice none 0 0), di 0, dv (.slice none 0 0), dv (.bool false), dv (.bool false), dv (.bool false), di 0, dv (.slice none 0 0), dv (.slice none 0 0)]
theorem setM_drawn {m : HartM} (h : m.drawn) (k w : Int) : (setM m k w).drawn := by
  obtain ⟨h1, h2, h3, h4⟩ := h
  unfold setM setCsrL
  (repeat' split) <;> exact ⟨by simpa using h1, by simpa using h2, by simpa using h3, by simpa using h4⟩
end Go.Proofs.Ytojaakpnpdnbhaa.L

/- What the functions compute that draw a machine with something bent: contracts. -/
set_option linter.unusedVariables false
set_option linter.unusedSimpArgs false
set_option maxRecDepth 100000
namespace Go.Proofs.Ytojaakpnpdnbhaa.L
open Go.RowKit
theorem drop_intsB (l : List Int) (k i : Nat) : intsF l (k + i) = intsF (l.drop k) i := by
  show [D.v (.int .i64 (l.getD (k + i) 0))] = [D.v (.int .i64 ((l.drop k).getD i 0))]
  simp [List.getD, List.getElem?_drop]
theorem HartM.drawn.small {m : HartM} (h : m.drawn) : m.small := by
  obtain ⟨h1, h2, h3, h4⟩ := h
  exact ⟨by omega, by omega, by omega, by omega⟩
end Go.Proofs.Ytojaakpnpdnbhaa.L

/- What the functions compute that draw a machine and what is done to it: contracts. -/
set_option linter.unusedVariables false
set_option linter.unusedSimpArgs false
set_option maxRecDepth 100000
namespace Go.Proofs.Ytojaakpnpdnbhaa.L
open Go.RowKit
abbrev hartSh (m : HartM) : RV1 := .agg [.sh (ints m.regs), .v (.int .i64 m.pc), .sh (ints m.csr), .v (.bool m.halted), .v (.bool m.waiting), .v (.bool m.rung), .v (.int .i64 m.done), .sh (ints m.inp), .sh (ints m.out)]
theorem c_laws_lwBig (c : List Int) (hc : c.length ≤ 9223372036854775807) : FnOK Try.prog 47 [.d (bytesD c)] (rb (decide ((c.length : Int) > 1048576))) := by
  refine fn_of lv47 Try.func47 rfl rfl (by kernel_rfl) rfl ?_
  exact ⟨⟨rfl, trivial⟩, rfl⟩
end Go.Proofs.Ytojaakpnpdnbhaa.L

/- Plain facts on machines: what it means that nothing is wrong with one, and what stays so when a number is set. -/
set_option linter.unusedVariables false
set_option linter.unusedSimpArgs false
set_option maxRecDepth 100000
namespace Go.Proofs.Ytojaakpnpdnbhaa.L
open Go.RowKit
structure HartM.right (m : HartM) : Prop where
  regs : m.regs.length = 16
  csr : m.csr.length = 11
  r0 : m.regs.getD 0 0 = 0
  wr : ∀ x ∈ m.regs, isW x = true
  wp : isW m.pc = true
  wc : ∀ x ∈ m.csr, isW x = true
  wi : ∀ x ∈ m.inp, isW x = true
  wo : ∀ x ∈ m.out, isW x = true
  inp : m.inp.length ≤ 40
  out : m.out.length ≤ 40
  done : inR m.done 0 1000000000 = true
  c0 : m.csr.getD 0 0 ≤ 3
  c7 : m.csr.getD 7 0 ≤ 7
  c10 : m.csr.getD 10 0 ≤ 8
  c6 : m.csr.getD 6 0 = 0
  c8 : m.csr.getD 8 0 = 0
theorem bif_zero {b : Bool} {x : Int} {n : Int} (h : (bif b then n else x) = 0) (hn : n ≠ 0) : b = false ∧ x = 0 := by cases b <;> simp_all
theorem hFault_right {m : HartM} (h : hFault m = 0) : m.right := by
  unfold hFault at h
  obtain ⟨h1, h⟩ := bif_zero h (by decide)
  obtain ⟨h2, h⟩ := bif_zero h (by decide)
  obtain ⟨h3, h⟩ := bif_zero h (by decide)
  obtain ⟨h4, h⟩ := bif_zero h (by decide)
  obtain ⟨h5, h⟩ := bif_zero h (by decide)
  simp only [Bool.or_eq_false_iff, bne_eq_false_iff_eq, Bool.not_eq_eq_eq_not, Bool.not_false, decide_eq_false_iff_not, List.all_eq_true] at h1 h2 h3 h4 h5
  exact ⟨by omega, by omega, h1.2.2, h2.1, h2.2.1, h2.2.2.1, h2.2.2.2.1, h2.2.2.2.2, by omega, by omega, h4, by omega, by omega, by omega, h5.2.2.2.1, h5.2.2.2.2⟩
theorem right_hFault {m : HartM} (h : m.right) : hFault m = 0 := by
  obtain ⟨h1, h2, h3, h4, h5, h6, h7, h8, h9, h10, h11, h12, h13, h14, h15, h16⟩ := h
  have a4 : m.regs.all isW = true := List.all_eq_true.2 h4
  have a6 : m.csr.all isW = true := List.all_eq_true.2 h6
  have a7 : m.inp.all isW = true := List.all_eq_true.2 h7
  have a8 : m.out.all isW = true := List.all_eq_true.2 h8
  have b1 : decide ((m.inp.length : Int) > 40) = false := by simp; omega
  have b2 : decide ((m.out.length : Int) > 40) = false := by simp; omega
  have b3 : decide (m.csr.getD 0 0 > 3) = false := by simp only [decide_eq_false_iff_not]; omega
  have b4 : decide (m.csr.getD 7 0 > 7) = false := by simp only [decide_eq_false_iff_not]; omega
  have b5 : decide (m.csr.getD 10 0 > 8) = false := by simp only [decide_eq_false_iff_not]; omega
  unfold hFault
  rw [h1, h2, h3, a4, h5, a6, a7, a8, b1, b2, h11, b3, b4, b5, h15, h16]
  rfl
theorem set_get (l : List Int) (i j : Nat) (v : Int) (hi : i < l.length) : (l.set i v).getD j 0 = if j = i then v else l.getD j 0 := by
  by_cases e : j = i
  · subst e; simp [List.getD, hi]
  · rw [if_neg e]; simp [List.getD, List.getElem?_set_ne (Ne.symm e)]
theorem mem_set_all {l : List Int} {i : Nat} {v : Int} {p : Int → Bool} (h : ∀ x ∈ l, p x = true) (hv : p v = true) : ∀ x ∈ l.set i v, p x = true := fun x hx => by
  rcases List.mem_or_eq_of_mem_set hx with h1 | rfl
  · exact h x h1
  · exact hv
theorem isW_iff {n : Int} : isW n = true ↔ 0 ≤ n ∧ n ≤ 4294967295 := by simp [isW, inR]
theorem setCsrL_right {m : HartM} (h : m.right) {k v : Int} (hk : 0 ≤ k) (hk2 : k ≤ 10) (hv : 0 ≤ v) (hv2 : v ≤ 4294967295) (a : k = 0 → v ≤ 3) (b : k = 7 → v ≤ 7) (c : k = 10 → v ≤ 8) (d : k ≠ 6) (e : k ≠ 8) : (setCsrL m k v).right := by
  obtain ⟨h1, h2, h3, h4, h5, h6, h7, h8, h9, h10, h11, h12, h13, h14, h15, h16⟩ := h
  have hi : k.toNat < m.csr.length := by omega
  unfold setCsrL
  refine ⟨h1, by simpa using h2, h3, h4, h5, mem_set_all h6 (isW_iff.2 ⟨hv, hv2⟩), h7, h8, h9, h10, h11, ?_, ?_, ?_, ?_, ?_⟩
  all_goals
    dsimp only
    rw [set_get _ _ _ _ hi]
    split <;> omega
theorem tmod_w (w n : Int) (hn : 0 < n) : 0 ≤ Int.tmod (wrapW w) n ∧ Int.tmod (wrapW w) n < n := tmod_in (wrapW_le w).1 hn
theorem setM_right {m : HartM} (h : m.right) (k w : Int) (hk : 0 ≤ k) (hk2 : k ≤ 10) : (setM m k w).right := by
  have a1 := wrapW_le w
  have a2 := tmod_w w 4 (by omega)
  have a3 := tmod_w w 8 (by omega)
  unfold setM
  split
  · exact setCsrL_right h hk hk2 (by omega) (by omega) (by omega) (by omega) (by omega) (by omega) (by omega)
  split
  · exact setCsrL_right h hk hk2 (by omega) (by omega) (by omega) (by omega) (by omega) (by omega) (by omega)
  split
  · exact setCsrL_right h hk hk2 (by split <;> omega) (by split <;> omega) (by omega) (by omega) (by intro _; split <;> omega) (by omega) (by omega)
  split
  · obtain ⟨h1, h2, h3, h4, h5, h6, h7, h8, h9, h10, h11, h12, h13, h14, h15, h16⟩ := h
    exact ⟨h1, h2, h3, h4, h5, h6, h7, h8, h9, h10, h11, h12, h13, h14, h15, h16⟩
  split
  · exact h
  · exact setCsrL_right h hk hk2 (by omega) (by omega) (by omega) (by omega) (by omega) (by omega) (by omega)
theorem setM_idem (m : HartM) (k w : Int) : setM (setM m k w) k w = setM m k w := by
  have set2 : ∀ v : Int, setCsrL (setCsrL m k v) k v = setCsrL m k v := fun v => by unfold setCsrL; simp [List.set_set]
  by_cases h0 : k = 0
  · simp only [setM, if_pos h0]; exact set2 _
  by_cases h7 : k = 7
  · simp only [setM, if_neg h0, if_pos h7]; exact set2 _
  by_cases h10 : k = 10
  · simp only [setM, if_neg h0, if_neg h7, if_pos h10]; exact set2 _
  by_cases h6 : k = 6
  · simp only [setM, if_neg h0, if_neg h7, if_neg h10, if_pos h6]
    cases m.rung <;> simp
  by_cases h8 : k = 8
  · simp only [setM, if_neg h0, if_neg h7, if_neg h10, if_neg h6, if_pos h8]
  · simp only [setM, if_neg h0, if_neg h7, if_neg h10, if_neg h6, if_neg h8]; exact set2 _
theorem setM_csr (m : HartM) (k w : Int) (hm : m.csr.length = 11) (hk : 0 ≤ k) (hk2 : k ≤ 10) (i : Int) (hi : 0 ≤ i) (hne : i ≠ k) : (setM m k w).csr.getD i.toNat 0 = m.csr.getD i.toNat 0 ∧ (setM m k w).done = m.done := by
  have st : ∀ v : Int, (setCsrL m k v).csr.getD i.toNat 0 = m.csr.getD i.toNat 0 ∧ (setCsrL m k v).done = m.done := fun v => by
    refine ⟨?_, rfl⟩
    show (m.csr.set k.toNat v).getD i.toNat 0 = _
    rw [set_get _ _ _ _ (by omega), if_neg (by omega)]
  unfold setM
  split
  · exact st _
  split
  · exact st _
  split
  · exact st _
  split
  · exact ⟨rfl, rfl⟩
  split
  · exact ⟨rfl, rfl⟩
  · exact st _
theorem getCsr_set (m : HartM) (k w : Int) (h : m.right) (hk : 0 ≤ k) (hk2 : k ≤ 10) (i : Int) (hi : 0 ≤ i) (hi2 : i ≤ 10) (hne : i ≠ k) (h6 : i ≠ 6) : getCsr (setM m k w) i = getCsr m i := by
  obtain ⟨e1, e2⟩ := setM_csr m k w h.csr hk hk2 i hi hne
  unfold getCsr csrOf
  rw [right_hFault h, right_hFault (setM_right h k w hk hk2), e1, e2, if_neg h6, if_neg h6]
theorem getCsr_right {m : HartM} (h : m.right) (i : Int) (hi : 0 ≤ i) (hi2 : i ≤ 10) : getCsr m i = (0, csrOf m i) := by
  unfold getCsr
  rw [if_pos (right_hFault h), if_pos (inR_iff.2 ⟨hi, hi2⟩)]
theorem setM_5 (m : HartM) (w : Int) (h : m.csr.length = 11) : csrOf (setM m 5 w) 5 = wrapW w := by
  show (if (5 : Int) = 6 then _ else if (5 : Int) = 8 then _ else _) = _
  rw [if_neg (by decide), if_neg (by decide)]
  show (m.csr.set 5 (wrapW w)).getD 5 0 = _
  rw [set_get _ _ _ _ (by omega), if_pos rfl]
theorem setM_8 (m : HartM) (w : Int) : csrOf (setM m 8 w) 8 = m.done := rfl
end Go.Proofs.Ytojaakpnpdnbhaa.L

/- What the functions compute that tell a guest's own view: contracts. -/
set_option linter.unusedVariables false
set_option linter.unusedSimpArgs false
set_option maxRecDepth 100000
namespace Go.Proofs.Ytojaakpnpdnbhaa.L
open Go.RowKit
theorem firstNZ_zero {l : List Int} (h : firstNZ l = 0) : ∀ x ∈ l, x = 0 := by
  induction l with
  | nil => intro x hx; simp at hx
  | cons a l ih =>
    simp only [firstNZ] at h
    split at h
    · rename_i h0
      intro x hx
      rcases List.mem_cons.1 hx with rfl | hx
      · exact h0
      · exact ih h x hx
    · rename_i h0
      exact absurd h h0
theorem pagesFault_ok {l : List PageM} {top : Int} (h : pagesFault l top = 0) : PgsOK l top := by
  unfold pagesFault at h
  obtain ⟨h1, h⟩ := bif_zero h (by decide)
  obtain ⟨h2, h⟩ := bif_zero h (by decide)
  refine ⟨by simp at h2; omega, fun p hp => ?_⟩
  have h3 := firstNZ_zero h _ (List.mem_map_of_mem hp)
  unfold pageBad at h3
  obtain ⟨h4, h3⟩ := bif_zero h3 (by decide)
  simp only [Bool.or_eq_false_iff, Bool.not_eq_eq_eq_not, Bool.not_false, inR_iff] at h4
  omega
structure MemOK (m : List Int) : Prop where
  pos : 0 < m.length
  le : m.length ≤ 192
  mod : m.length % 8 = 0
  word : ∀ x ∈ m, isW x = true
theorem memFault_ok {m : List Int} (h : memFault m = 0) : MemOK m := by
  unfold memFault at h
  obtain ⟨h1, h⟩ := bif_zero h (by decide)
  obtain ⟨h2, h⟩ := bif_zero h (by decide)
  simp only [Bool.or_eq_false_iff, bne_eq_false_iff_eq, beq_eq_false_iff_ne, decide_eq_false_iff_not] at h1
  have h3 : Int.tmod (m.length : Int) 8 = (m.length : Int) % 8 := Int.tmod_eq_emod_of_nonneg (by omega)
  rw [h3] at h1
  exact ⟨by omega, by omega, by omega, fun x hx => List.all_eq_true.1 (by simpa using h2) x hx⟩
abbrev pageTop (mem : List Int) : Int := IntKind.i64.wrap (Int.tdiv mem.length 8)
theorem pageTop_eq {mem : List Int} (h : MemOK mem) : pageTop mem * 8 = mem.length := by
  have h1 : Int.tdiv (mem.length : Int) 8 = (mem.length : Int) / 8 := Int.tdiv_eq_ediv_of_nonneg (by omega)
  have := h.mod
  have := h.le
  unfold pageTop
  rw [h1, wrap_i64 _ (by omega) (by omega)]
  omega
def stepF (m : HartM) (l : List PageM) (mem : List Int) : Int :=
  if hFault m = 0 then (if pagesFault l 24 = 0 then (bif (memFault mem != 0) || l.any (fun p => decide (p.to ≥ pageTop mem)) then 1 else 0) else pagesFault l 24) else hFault m
theorem firstNZ_two (a b : Int) : firstNZ [a, b] = if a = 0 then b else a := by
  simp only [firstNZ]
  split
  · split
    · rename_i h; exact h.symm
    · rfl
  · rfl
theorem stepF_any {l : List PageM} {mem : List Int} (hp : pagesFault l 24 = 0) (hm : memFault mem = 0) (i : Nat) (hi : i < l.length) :
    decide (IntKind.i64.wrap (IntKind.i64.wrap ((l.getD i ⟨0, 0⟩).to + 1) * 8) > (mem.length : Int)) = decide ((l.getD i ⟨0, 0⟩).to ≥ pageTop mem) := by
  have h1 := (pagesFault_ok hp).get (i := i) (by rw [← (pagesFault_ok hp).len]; exact hi)
  have h2 := pageTop_eq (memFault_ok hm)
  generalize (l.getD i ⟨0, 0⟩).to = t at *
  rw [wrap_i64 (t + 1) (by omega) (by omega), wrap_i64 _ (by omega) (by omega)]
  exact decide_eq_decide.2 (by omega)
def idPages : List PageM := (List.range 8).map fun (i : Nat) => (⟨(i : Int), 7⟩ : PageM)
def spaceM (m : HartM) (l : List PageM) (mem : List Int) : Int × List PageM :=
  if m.csr.getD 10 0 = 0 then (0, idPages) else
  bif (decide ((l.getD (m.csr.getD 10 0 - 1).toNat ⟨0, 0⟩).to < 0) || (andI (l.getD (m.csr.getD 10 0 - 1).toNat ⟨0, 0⟩).kinds 1 == 0)) || (m.csr.getD 10 0 == 8) then (7, []) else (0, (pageW mem (l.getD (m.csr.getD 10 0 - 1).toNat ⟨0, 0⟩).to).map entryP)
/-- a machine over a memory with which nothing is wrong -/
structure StepOK (m : HartM) (l : List PageM) (mem : List Int) : Prop where
  hart : m.right
  pgs : PgsOK l 24
  ram : MemOK mem
  top : ∀ p ∈ l, (p.to + 1) * 8 ≤ mem.length
theorem stepF_ok {m : HartM} {l : List PageM} {mem : List Int} (h : stepF m l mem = 0) : StepOK m l mem := by
  unfold stepF at h
  split at h
  · rename_i h0
    split at h
    · rename_i h1
      obtain ⟨h2, _⟩ := bif_zero h (by decide)
      simp only [Bool.or_eq_false_iff, bne_eq_false_iff_eq] at h2
      refine ⟨hFault_right h0, pagesFault_ok h1, memFault_ok h2.1, fun p hp => ?_⟩
      have h3 := List.any_eq_false.1 h2.2 p hp
      have h4 := pageTop_eq (memFault_ok h2.1)
      simp only [decide_eq_true_eq] at h3
      omega
    · rename_i h1; exact absurd h h1
  · rename_i h0; exact absurd h h0
theorem StepOK.table {m : HartM} {l : List PageM} {mem : List Int} (h : StepOK m l mem) : 0 ≤ m.csr.getD 10 0 ∧ m.csr.getD 10 0 ≤ 8 := by
  refine ⟨?_, h.hart.c10⟩
  rw [getD_at _ (by rw [h.hart.csr]; omega)]
  exact (isW_iff.1 (h.hart.wc _ (List.getElem_mem _))).1
theorem StepOK.page {m : HartM} {l : List PageM} {mem : List Int} (h : StepOK m l mem) {i : Nat} (hi : i < 8) : -1 ≤ (l.getD i ⟨0, 0⟩).to ∧ (l.getD i ⟨0, 0⟩).to < 24 ∧ ((l.getD i ⟨0, 0⟩).to + 1) * 8 ≤ mem.length := by
  have h1 := h.pgs.get hi
  refine ⟨h1.1, h1.2, ?_⟩
  rw [getD_at _ (by rw [h.pgs.len]; exact hi)]
  exact h.top _ (List.getElem_mem _)
theorem pagesFrom_page {mem : List Int} (hm : MemOK mem) {p : Int} (h0 : 0 ≤ p) (h : (p + 1) * 8 ≤ mem.length) : pagesFrom (pageW mem p) = (0, (pageW mem p).map entryP) := by
  have h8 := pageW_len mem p h0 h
  have hw : (pageW mem p).all isW = true := List.all_eq_true.2 (fun x hx => hm.word x (List.mem_of_mem_drop (List.mem_of_mem_take hx)))
  unfold pagesFrom
  rw [h8, hw]
  rfl
theorem id_get (i : Nat) (hi : i < 8) : idPages.take i ++ [⟨(i : Int), 7⟩] = idPages.take (i + 1) := by
  have : i = 0 ∨ i = 1 ∨ i = 2 ∨ i = 3 ∨ i = 4 ∨ i = 5 ∨ i = 6 ∨ i = 7 := by omega
  rcases this with rfl | rfl | rfl | rfl | rfl | rfl | rfl | rfl <;> rfl
abbrev busD (m : HartM) (l : List PageM) (mem : List Int) : List D := [pages l, ints mem, dI 0, ints m.regs, dI m.pc, ints m.csr, dB m.halted, dB m.waiting, dB m.rung, dI m.done, ints m.inp, ints m.out, dI 0]
theorem space_walk {m : HartM} {l : List PageM} {mem : List Int} (ok : StepOK m l mem) (h0 : 0 < m.csr.getD 10 0) :
    IntKind.i64.wrap (IntKind.i64.wrap (m.csr.getD 10 0 - 1) * 8) = (m.csr.getD 10 0 - 1) * 8 ∧ walkP l ((m.csr.getD 10 0 - 1) * 8) 1 = bif decide ((l.getD (m.csr.getD 10 0 - 1).toNat ⟨0, 0⟩).to < 0) || (andI (l.getD (m.csr.getD 10 0 - 1).toNat ⟨0, 0⟩).kinds 1 == 0) then -1 else (l.getD (m.csr.getD 10 0 - 1).toNat ⟨0, 0⟩).to * 8 := by
  have ht := ok.table
  have hin : inR ((m.csr.getD 10 0 - 1) * 8) 0 63 = true := inR_iff.2 ⟨by omega, by omega⟩
  have hd := div8 (a := (m.csr.getD 10 0 - 1) * 8) (by omega) (by omega)
  have e1 : Int.tdiv ((m.csr.getD 10 0 - 1) * 8) 8 = m.csr.getD 10 0 - 1 := by rw [Int.tdiv_eq_ediv_of_nonneg (by omega)]; omega
  have e2 : Int.tmod ((m.csr.getD 10 0 - 1) * 8) 8 = 0 := by rw [Int.tmod_eq_emod_of_nonneg (by omega)]; omega
  have ea : pageAt l ((m.csr.getD 10 0 - 1) * 8) = l.getD (m.csr.getD 10 0 - 1).toNat ⟨0, 0⟩ := by unfold pageAt; rw [hd.1, e1]
  have hw := fun h => (walk_get (at_ := (m.csr.getD 10 0 - 1) * 8) ok.pgs (by omega) hin h).1
  rw [ea, e2] at hw
  have ew : IntKind.i64.wrap (m.csr.getD 10 0 - 1) = m.csr.getD 10 0 - 1 := wrap_i64 _ (by omega) (by omega)
  refine ⟨by rw [ew, wrap_i64 _ (by omega) (by omega)], ?_⟩
  unfold walkP
  rw [hin, ea, e2]
  cases hb : decide ((l.getD (m.csr.getD 10 0 - 1).toNat ⟨0, 0⟩).to < 0) || (andI (l.getD (m.csr.getD 10 0 - 1).toNat ⟨0, 0⟩).kinds 1 == 0) with
  | true => rfl
  | false =>
    simp only [Bool.not_true, cond_false]
    rw [hw (of_decide_eq_false (Bool.or_eq_false_iff.1 hb).1)]
    omega
def spaceOf (m : HartM) (l : List PageM) (mem : List Int) : Int × List PageM := if stepF m l mem = 0 then spaceM m l mem else (stepF m l mem, [])
theorem spaceM_1 (m : HartM) (l : List PageM) (mem : List Int) : spaceM m l mem = (0, (spaceM m l mem).2) ∨ spaceM m l mem = (7, []) := by
  unfold spaceM
  split
  · exact .inl rfl
  · generalize (decide ((l.getD (m.csr.getD 10 0 - 1).toNat ⟨0, 0⟩).to < 0) || (andI (l.getD (m.csr.getD 10 0 - 1).toNat ⟨0, 0⟩).kinds 1 == 0) || (m.csr.getD 10 0 == 8)) = b
    cases b
    · exact .inl rfl
    · exact .inr rfl
theorem spaceM_len {m : HartM} {l : List PageM} {mem : List Int} (ok : StepOK m l mem) : (spaceM m l mem).2.length ≤ 8 := by
  unfold spaceM
  split
  · show idPages.length ≤ 8
    decide
  · generalize (decide ((l.getD (m.csr.getD 10 0 - 1).toNat ⟨0, 0⟩).to < 0) || (andI (l.getD (m.csr.getD 10 0 - 1).toNat ⟨0, 0⟩).kinds 1 == 0) || (m.csr.getD 10 0 == 8)) = b
    cases b
    · show ((pageW mem _).map entryP).length ≤ 8
      rw [List.length_map]
      unfold pageW
      rw [List.length_take]
      omega
    · simp
theorem spaceOf_few (m : HartM) (l : List PageM) (mem : List Int) : (spaceOf m l mem).2.length ≤ 8 := by
  unfold spaceOf
  split
  · rename_i h; exact spaceM_len (stepF_ok h)
  · simp
end Go.Proofs.Ytojaakpnpdnbhaa.L

/- What the law functions compute that mark pages: contracts. -/
set_option linter.unusedVariables false
set_option linter.unusedSimpArgs false
set_option maxRecDepth 100000
namespace Go.Proofs.Ytojaakpnpdnbhaa.L
open Go.RowKit
abbrev rowP (l : List PageM) : Ent := .row 133 2 l.length (pagesF l)
/-- pages that bear the numbers from k on -/
abbrev pageMk (k : Int) (j : Nat) : List D := [.v (.int .i64 (k + 2 * (j : Int))), .v (.int .i64 (k + 2 * (j : Int) + 1))]
theorem c_laws_markPageS (l : List PageM) (k : Int) (hl : l.length ≤ 1099511627776) (hk : 0 ≤ k) (hk2 : k ≤ 1099511627776) :
    MutOK Try.prog 69 [.row 0, di k] 1 [(0, rowP l)] (di (k + 2 * l.length)) 1 [(0, .row 133 2 l.length (pageMk k))] := by
  refine mut_fn_of lv69 Try.func69 rfl rfl (by kernel_rfl) rfl [] ?_
  refine ⟨{ i : Nat // i ≤ l.length }, fun i => ⟨frL [(0, .row 0), (1, di (k + 2 * (i.1 : Int))), (5, di i.1)], hpL [(0, .row 133 2 l.length fun j => if j < i.1 then pageMk k j else pagesF l j)], 1, 1⟩, fun i => l.length - i.1, ⟨0, by omega⟩,
    le_of [] rfl rfl rfl rfl (tellHp_row rfl rfl rfl (fun i hi => rfl) tellHp_nil) (tellFr_row rfl rfl (tellFr_v rfl (congrArg (Value.int .i64) (?_ : k = k + 2 * ((0 : Nat) : Int))) (tellFr_v rfl rfl trivial))), ?_⟩
  · omega
  rintro ⟨i, hi⟩
  refine bsplit_intro (fun h => ?_) (fun h => ?_)
  · have h : i < l.length := by simp at h; exact h
    have w1 : IntKind.i64.wrap (k + 2 * (i : Int) + 1) = k + 2 * (i : Int) + 1 := wrap_i64 _ (by omega) (by omega)
    refine ask_intro ⟨by omega, by simp; omega⟩ ?_
    refine ask_intro (by show i < l.length; exact h) ?_
    refine ask_intro ⟨by omega, by simp; omega⟩ ?_
    refine ask_intro (by show i < l.length; exact h) ?_
    refine ⟨⟨i + 1, by omega⟩, le_of [] rfl rfl rfl rfl (tellHp_row rfl rfl rfl (fun j hj => ?_) tellHp_nil) (tellFr_row rfl rfl (tellFr_v rfl (congrArg (Value.int .i64) (?_ : IntKind.i64.wrap (IntKind.i64.wrap (k + 2 * (i : Int) + 1) + 1) = k + 2 * ((i + 1 : Nat) : Int))) (tellFr_v rfl (congrArg (Value.int .i64) (?_ : IntKind.i64.wrap ((i : Int) + 1) = ((i + 1 : Nat) : Int))) trivial))), by show l.length - (i + 1) < l.length - i; omega⟩
    · show (if j = i then splice (if j = i then splice (if j < i then pageMk k j else pagesF l j) 0 [D.v (.int .i64 (k + 2 * (i : Int)))] else if j < i then pageMk k j else pagesF l j) 1 [D.v (.int .i64 (IntKind.i64.wrap (k + 2 * (i : Int) + 1)))] else if j = i then splice (if j < i then pageMk k j else pagesF l j) 0 [D.v (.int .i64 (k + 2 * (i : Int)))] else if j < i then pageMk k j else pagesF l j) = if j < i + 1 then pageMk k j else pagesF l j
      by_cases h1 : j = i
      · subst h1
        rw [if_pos rfl, if_pos rfl, if_neg (by omega), if_pos (by omega), w1]
        rfl
      · rw [if_neg h1, if_neg h1]
        by_cases h2 : j < i
        · rw [if_pos h2, if_pos (by omega)]
        · rw [if_neg h2, if_neg (by omega)]
    · rw [w1, wrap_i64 _ (by omega) (by omega)]; omega
    · exact wrap_i64 (i + 1) (by omega) (by omega)
  · simp at h
    have e : i = l.length := by omega
    subst e
    refine chk_intro (by kernel_rfl) ⟨tellV_v rfl rfl, tellHp_row rfl rfl rfl (fun j hj => ?_) tellHp_nil⟩
    show (if j < l.length then pageMk k j else pagesF l j) = pageMk k j
    rw [if_pos hj]
end Go.Proofs.Ytojaakpnpdnbhaa.L

/- What the law functions compute over results that bear pages: contracts. -/
set_option linter.unusedVariables false
set_option linter.unusedSimpArgs false
set_option maxRecDepth 100000
namespace Go.Proofs.Ytojaakpnpdnbhaa.L
open Go.RowKit
abbrev pagesM (l : List PageM) (k : Int) : D := .l l.length (pageMk k)
abbrev rowPM (l : List PageM) (k : Int) : Ent := .row 133 2 l.length (pageMk k)
theorem c_laws_heldPageS (l : List PageM) (k : Int) (hl : l.length ≤ 1099511627776) (hk : 0 ≤ k) (hk2 : k ≤ 1099511627776) : FnOK Try.prog 98 [.d (pagesM l k), di k] (ri (k + 2 * l.length)) := by
  refine fn_of lv98 Try.func98 rfl rfl (by kernel_rfl) rfl ?_
  refine ⟨{ i : Nat // i ≤ l.length }, fun i => ⟨frL [(0, .d (pagesM l k)), (1, di (k + 2 * (i.1 : Int))), (5, di i.1)], hpL [], 0, 0⟩, fun i => l.length - i.1, ⟨0, by omega⟩,
    le_of [] rfl rfl rfl rfl trivial (tellFr_d rfl (DLe.refl _) (tellFr_v rfl (congrArg (Value.int .i64) (show k = k + 2 * ((0 : Nat) : Int) by omega)) (tellFr_v rfl rfl trivial))), ?_⟩
  rintro ⟨i, hi⟩
  refine bsplit_intro (fun h => ?_) (fun h => ?_)
  · have h : i < l.length := by simp at h; exact h
    have w1 : IntKind.i64.wrap (k + 2 * (i : Int) + 1) = k + 2 * (i : Int) + 1 := wrap_i64 _ (by omega) (by omega)
    have w2 : IntKind.i64.wrap (k + 2 * (i : Int) + 1 + 1) = k + 2 * ((i + 1 : Nat) : Int) := by rw [wrap_i64 _ (by omega) (by omega)]; omega
    refine ask_intro ⟨by omega, by simp; omega, rfl⟩ ?_
    refine bsplit_of_false (show (k + 2 * (i : Int) != k + 2 * (i : Int)) = false by simp) ?_
    refine ask_intro ⟨by omega, by simp; omega, rfl⟩ ?_
    refine bsplit_of_false (show (k + 2 * (i : Int) + 1 != IntKind.i64.wrap (k + 2 * (i : Int) + 1)) = false by rw [w1]; simp) ?_
    exact ⟨⟨i + 1, by omega⟩, le_of [] rfl rfl rfl rfl trivial (tellFr_d rfl (DLe.refl _) (tellFr_v rfl (congrArg (Value.int .i64) (by rw [w1, w2])) (tellFr_v rfl (congrArg (Value.int .i64) (wrap_i64 (i + 1) (by omega) (by omega) : IntKind.i64.wrap ((i : Int) + 1) = ((i + 1 : Nat) : Int))) trivial))), by show l.length - (i + 1) < l.length - i; omega⟩
  · simp at h
    have e : i = l.length := by omega
    subst e
    exact ⟨⟨rfl, trivial⟩, rfl⟩
theorem c_laws_eqPagesResult (p q : Int × List PageM) (hs : p.2.length ≤ 9223372036854775807) : FnOK Try.prog 34 [pgsLV p, pgsLV q] (rb (decide (p = q))) := by
  refine fn_of lv34 Try.func34 rfl rfl (by kernel_rfl) rfl ?_
  repeat' (first | refine bsplit_true ?_ | refine bsplit_false ?_ | refine .inl ⟨_, _, rfl, c_laws_eqPageS p.2 q.2 hs, rfl, ?_⟩ | refine bsplit_intro (fun h => ?_) (fun h => ?_))
  all_goals refine ⟨⟨congrArg Value.bool ?_, trivial⟩, rfl⟩
  all_goals (obtain ⟨a1, a2⟩ := p; obtain ⟨b1, b2⟩ := q; simp_all)
theorem c_laws_markPagesResult (p : Int × List PageM) (k : Int) (hf : p.2.length ≤ 1099511627776) (hk : 0 ≤ k) (hk2 : k ≤ 1099511627776) : MutOK Try.prog 35 [.agg [di p.1, .row 0], di k] 1 [(0, rowP p.2)] (di (k + 2 * p.2.length)) 1 [(0, rowPM p.2 k)] := by
  refine mut_fn_of lv35 Try.func35 rfl rfl (by kernel_rfl) rfl [] ?_
  refine .inr ⟨rfl, use_mut ⟨_, _, _, _, _, _, rfl, rfl, c_laws_markPageS p.2 k hf hk hk2, rfl, ?_⟩⟩
  exact chk_intro (by kernel_rfl) ⟨tellV_v rfl rfl, tellHp_row rfl rfl rfl (fun j hj => rfl) tellHp_nil⟩
theorem c_laws_heldPagesResult (p : Int × List PageM) (k : Int) (hf : p.2.length ≤ 1099511627776) (hk : 0 ≤ k) (hk2 : k ≤ 1099511627776) : FnOK Try.prog 36 [.agg [di p.1, .d (pagesM p.2 k)], di k] (ri (k + 2 * p.2.length)) := by
  refine fn_of lv36 Try.func36 rfl rfl (by kernel_rfl) rfl ?_
  refine .inl ⟨_, _, rfl, c_laws_heldPageS p.2 k hf hk hk2, rfl, ?_⟩
  refine bsplit_of_false (decide_eq_false (show ¬ k + 2 * (p.2.length : Int) < 0 by omega)) ?_
  exact ⟨⟨rfl, trivial⟩, rfl⟩
end Go.Proofs.Ytojaakpnpdnbhaa.L

/- The law function over a machine that goes back from a trap answers true. -/
set_option linter.unusedVariables false
set_option linter.unusedSimpArgs false
set_option maxRecDepth 100000
namespace Go.Proofs.Ytojaakpnpdnbhaa.L
open Go.RowKit
theorem backHart_few (m : HartM) (hf : m.few) (hs : m.small) : (backHart m).2.few ∧ (backHart m).2.small := by
  unfold backHart
  split
  · exact ⟨⟨hf.regs, by simpa [backM] using hf.csr, hf.inp, hf.out⟩, ⟨hs.regs, by simpa [backM] using hs.csr, hs.inp, hs.out⟩⟩
  · exact hartZ_few
end Go.Proofs.Ytojaakpnpdnbhaa.L

/- The law functions over a machine that is fed answer true. -/
set_option linter.unusedVariables false
set_option linter.unusedSimpArgs false
set_option maxRecDepth 100000
namespace Go.Proofs.Ytojaakpnpdnbhaa.L
open Go.RowKit
theorem hK_b (m : HartM) (k : Int) (hf : m.few) (h1 : 0 ≤ k) (h2 : k ≤ 1048576) : 0 ≤ hK4 m k ∧ hK4 m k ≤ k + 4194304 := by
  obtain ⟨b1, b2, b3, b4⟩ := hf
  unfold hK4 hK3 hK2 hK1
  omega
theorem ints_b (l : List Int) (k : Int) (hf : l.length ≤ 1048576) (h1 : 0 ≤ k) (h2 : k ≤ 1099511627776) : 0 ≤ k + l.length ∧ k + l.length ≤ k + 1048576 := by omega
theorem feedHart_few (m : HartM) (hf : m.few) (hs : m.small) (l : List Int) (hl : l.length ≤ 1048576) : (feedHart m l).2.few ∧ (feedHart m l).2.small := by
  unfold feedHart
  split
  · cases h1 : (!l.all isW)
    · cases h2 : decide ((m.inp.length : Int) + l.length > 40)
      · have h2 : ¬ ((m.inp.length : Int) + l.length > 40) := by simpa using h2
        have e : (m.inp ++ l).length = m.inp.length + l.length := by simp
        exact ⟨⟨hf.regs, hf.csr, by show (m.inp ++ l).length ≤ _; omega, hf.out⟩, ⟨hs.regs, hs.csr, by show (m.inp ++ l).length * 8 ≤ _; omega, hs.out⟩⟩
      · exact hartZ_few
    · exact hartZ_few
  · exact hartZ_few
end Go.Proofs.Ytojaakpnpdnbhaa.L

/- The law functions over a guest's own view answer true. -/
set_option linter.unusedVariables false
set_option linter.unusedSimpArgs false
set_option maxRecDepth 100000
namespace Go.Proofs.Ytojaakpnpdnbhaa.L
open Go.RowKit
abbrev okPages (l : List PageM) : Prop := l.length * 16 ≤ reachBytes ∧ ∀ x ∈ l, ok64 x.to ∧ ok64 x.kinds
theorem szq_of {q : Int} {n : Nat} (h : decide ((if q - (n : Int) < 0 then -1 else q - (n : Int)) < 0) = false) : (n : Int) ≤ q := by
  have := of_decide_eq_false h
  split at this <;> omega
theorem len2_b {α : Type} (l : List α) (k : Int) (hf : l.length ≤ 1048576) (h1 : 0 ≤ k) (h2 : k ≤ 1073741824) : 0 ≤ k + 2 * (l.length : Int) ∧ k + 2 * (l.length : Int) ≤ k + 2097152 := by omega
end Go.Proofs.Ytojaakpnpdnbhaa.L

/- The pages of a guest, as the reference has them: contracts. -/
set_option linter.unusedVariables false
set_option linter.unusedSimpArgs false
set_option maxRecDepth 100000
namespace Go.Proofs.Ytojaakpnpdnbhaa.L
open Go.RowKit
abbrev nonesL (k : Nat) : List PageM := List.replicate k ⟨-1, 0⟩
theorem nones_step (k : Nat) : nonesL k ++ [⟨-1, 0⟩] = nonesL (k + 1) := by rw [nonesL, nonesL, List.replicate_succ']
set_option maxHeartbeats 1600000 in
theorem c_spec_l7Pages (x : PolM) (hs : x.small) (g : Int) (hg : 0 ≤ g) (hg2 : g < x.own.length) (h5 : (x.own.getD g.toNat []).length ≤ 5) (hl : LnsOK x) : FnOK Try.prog 96 [polP x, di g] (.r (.one (oPages (pagesP x g)))) := by
  have hsl := hs.lns
  have hV8 := pagesP_len h5
  obtain ⟨V, hV⟩ : ∃ V, V = pagesP x g := ⟨_, rfl⟩
  rw [← hV] at hV8 ⊢
  unfold pagesP at hV
  refine fn_of lv96 Try.func96 rfl rfl (by kernel_rfl) rfl ?_
  refine ⟨{ i : Nat // i ≤ 8 }, fun i => ⟨frL [(0, polP x), (1, di g), (5, .row 96), (6, di i.1)], hpL [(96, .row 133 2 i.1 (pagesF (nonesL i.1)))], 97, 0⟩, fun i => 8 - i.1, ⟨0, by omega⟩,
    le_of [(96, 4096)] rfl rfl rfl rfl (tellHp_row rfl rfl rfl (fun j hj => absurd hj (Nat.not_lt_zero _)) tellHp_nil) (tellFr_x rfl ⟨DLe.refl _, DLe.refl _, DLe.refl _, DLe.refl _, trivial⟩ (tellFr_v rfl rfl (tellFr_row rfl rfl (tellFr_v rfl rfl trivial)))), ?_⟩
  rintro ⟨k, hk⟩
  by_cases hk2 : k < 8
  · have hwr := congrArg (Value.int .i64) (wrap1 hk2 (by omega))
    have hap := fun j (hj : j < k + 1) => app_pages (nonesL k) ⟨-1, 0⟩ j (by simpa using hj)
    rw [List.length_replicate, nones_step] at hap
    refine bsplit_of_true (decide_eq_true (show (k : Int) < 8 by omega)) ?_
    refine .inl ⟨_, _, rfl, c_spec_l4None, rfl, ?_⟩
    refine ask_intro ⟨by show (k + 1) * 16 ≤ 140737488355328; omega, by show k + 1 ≤ 9223372036854775807; omega, one_len2 ⟨-1, 0⟩⟩ ?_
    exact ⟨⟨k + 1, by omega⟩, le_of [(96, 4289)] rfl rfl rfl rfl (tellHp_row rfl rfl rfl (fun j hj => hap j hj) tellHp_nil) (tellFr_x rfl ⟨DLe.refl _, DLe.refl _, DLe.refl _, DLe.refl _, trivial⟩ (tellFr_v rfl rfl (tellFr_row rfl rfl (tellFr_v rfl hwr trivial)))), by show 8 - (k + 1) < 8 - k; omega⟩
  obtain rfl : k = 8 := by omega
  refine bsplit_of_false (decide_eq_false (show ¬ ((8 : Nat) : Int) < 8 by omega)) ?_
  refine ⟨{ i : Nat // i ≤ (x.own.getD g.toNat []).length }, fun i => ⟨frL [(0, polP x), (1, di g), (5, .row 96), (7, di i.1)], hpL [(96, .row 133 2 8 (pagesF (ownS (x.own.getD g.toNat []) i.1)))], 97, 0⟩, fun i => (x.own.getD g.toNat []).length - i.1, ⟨0, by omega⟩,
    le_of [(96, 96)] rfl rfl rfl rfl (tellHp_row rfl rfl rfl (fun j hj => rfl) tellHp_nil) (tellFr_x rfl ⟨DLe.refl _, DLe.refl _, DLe.refl _, DLe.refl _, trivial⟩ (tellFr_v rfl rfl (tellFr_row rfl rfl (tellFr_v rfl rfl trivial)))), ?_⟩
  rintro ⟨k, hk⟩
  by_cases hk2 : k < (x.own.getD g.toNat []).length
  · have est := ownS_step (x.own.getD g.toNat []) k hk2 (by omega)
    have esl := ownS_len (x.own.getD g.toNat []) k hk (by omega)
    have hwr := congrArg (Value.int .i64) (wrap1 hk2 (by omega))
    refine ask_intro ⟨hg, hg2, rfl⟩ ?_
    refine bsplit_of_true (decide_eq_true (show (k : Int) < ((x.own.getD g.toNat []).length : Int) by omega)) ?_
    refine ask_intro ⟨hg, hg2, rfl⟩ ?_
    refine ask_intro ⟨by omega, by show (k : Int) < ((x.own.getD g.toNat []).length : Int); omega, rfl⟩ ?_
    refine ask_intro ⟨by omega, by show (k : Int) < ((8 : Nat) : Int); omega⟩ ?_
    refine ask_intro (by show k < 8; omega) ?_
    exact ⟨⟨k + 1, by omega⟩, le_of [(96, 96)] rfl rfl rfl rfl (tellHp_row rfl rfl rfl (fun j hj => (set_pagesF (ownS (x.own.getD g.toNat []) k) k ⟨(x.own.getD g.toNat []).getD k 0, 7⟩ (by omega) j).trans (by rw [est])) tellHp_nil) (tellFr_x rfl ⟨DLe.refl _, DLe.refl _, DLe.refl _, DLe.refl _, trivial⟩ (tellFr_v rfl rfl (tellFr_row rfl rfl (tellFr_v rfl hwr trivial)))), by show (x.own.getD g.toNat []).length - (k + 1) < (x.own.getD g.toNat []).length - k; omega⟩
  obtain rfl : k = (x.own.getD g.toNat []).length := by omega
  refine ask_intro ⟨hg, hg2, rfl⟩ ?_
  refine bsplit_of_false (decide_eq_false (show ¬ ((x.own.getD g.toNat []).length : Int) < ((x.own.getD g.toNat []).length : Int) by omega)) ?_
  refine ⟨{ p : Nat × List PageM // p.1 ≤ x.lns.length ∧ p.2.length = 8 ∧ V = (x.lns.drop p.1).foldl (laneSet g) p.2 }, fun p => ⟨frL [(0, polP x), (1, di g), (5, .row 96), (8, di p.1.1)], hpL [(96, .row 133 2 8 (pagesF p.1.2))], 97, 0⟩, fun p => x.lns.length - p.1.1, ⟨(0, ownS (x.own.getD g.toNat []) (x.own.getD g.toNat []).length), by omega, ownS_len _ _ (Nat.le_refl _) (by omega), hV⟩,
    le_of [(96, 96)] rfl rfl rfl rfl (tellHp_row rfl rfl rfl (fun j hj => rfl) tellHp_nil) (tellFr_x rfl ⟨DLe.refl _, DLe.refl _, DLe.refl _, DLe.refl _, trivial⟩ (tellFr_v rfl rfl (tellFr_row rfl rfl (tellFr_v rfl rfl trivial)))), ?_⟩
  rintro ⟨⟨k, S⟩, hk, hS, hall⟩
  simp only at hk hS hall
  by_cases hk2 : k < x.lns.length
  · rw [drop_consG ⟨0, 0, 0, 0, 0⟩ _ _ hk2, List.foldl_cons] at hall
    have hmem : x.lns.getD k ⟨0, 0, 0, 0, 0⟩ ∈ x.lns := by rw [getD_at _ hk2]; exact List.getElem_mem _
    obtain ⟨⟨a1, a2⟩, ⟨a3, a4⟩, _⟩ := hl _ hmem
    have hwr := congrArg (Value.int .i64) (wrap1 hk2 (by omega))
    have hl8 := laneSet_len g S (x.lns.getD k ⟨0, 0, 0, 0, 0⟩)
    have sp : ∀ (S : List PageM) (i : Nat) (p : PageM), S.length = 8 → i < 8 → ∀ j, (if j = i then splice (pagesF S j) 0 [.v (.int .i64 p.to), .v (.int .i64 p.kinds)] else pagesF S j) = pagesF (S.set i p) j := fun S i p h1 h2 j => set_pagesF S i p (by omega) j
    by_cases c1 : (x.lns.getD k ⟨0, 0, 0, 0, 0⟩).frm = g <;> by_cases c2 : (x.lns.getD k ⟨0, 0, 0, 0, 0⟩).to = g
    · have hstep : laneSet g S (x.lns.getD k ⟨0, 0, 0, 0, 0⟩) = (S.set (x.lns.getD k ⟨0, 0, 0, 0, 0⟩).af.toNat ⟨(x.lns.getD k ⟨0, 0, 0, 0, 0⟩).page, 3⟩).set (x.lns.getD k ⟨0, 0, 0, 0, 0⟩).at_.toNat ⟨(x.lns.getD k ⟨0, 0, 0, 0, 0⟩).page, 1⟩ := by unfold laneSet; rw [if_pos c2, if_pos c1]
      rw [hstep] at hall hl8
      have sp2 : ∀ j, (if j = (x.lns.getD k ⟨0, 0, 0, 0, 0⟩).at_.toNat then splice (if j = (x.lns.getD k ⟨0, 0, 0, 0, 0⟩).af.toNat then splice (pagesF S j) 0 [.v (.int .i64 (x.lns.getD k ⟨0, 0, 0, 0, 0⟩).page), .v (.int .i64 3)] else pagesF S j) 0 [.v (.int .i64 (x.lns.getD k ⟨0, 0, 0, 0, 0⟩).page), .v (.int .i64 1)] else if j = (x.lns.getD k ⟨0, 0, 0, 0, 0⟩).af.toNat then splice (pagesF S j) 0 [.v (.int .i64 (x.lns.getD k ⟨0, 0, 0, 0, 0⟩).page), .v (.int .i64 3)] else pagesF S j) = pagesF ((S.set (x.lns.getD k ⟨0, 0, 0, 0, 0⟩).af.toNat ⟨(x.lns.getD k ⟨0, 0, 0, 0, 0⟩).page, 3⟩).set (x.lns.getD k ⟨0, 0, 0, 0, 0⟩).at_.toNat ⟨(x.lns.getD k ⟨0, 0, 0, 0, 0⟩).page, 1⟩) j := fun j => by
        rw [sp S (x.lns.getD k ⟨0, 0, 0, 0, 0⟩).af.toNat ⟨(x.lns.getD k ⟨0, 0, 0, 0, 0⟩).page, 3⟩ hS (by omega) j]
        exact sp _ (x.lns.getD k ⟨0, 0, 0, 0, 0⟩).at_.toNat ⟨(x.lns.getD k ⟨0, 0, 0, 0, 0⟩).page, 1⟩ (by simpa using hS) (by omega) j
      refine bsplit_of_true (decide_eq_true (show (k : Int) < (x.lns.length : Int) by omega)) ?_
      refine ask_intro ⟨by omega, by show (k : Int) < (x.lns.length : Int); omega, rfl⟩ ?_
      refine bsplit_of_true (beq_iff_eq.2 c1) ?_
      refine ask_intro ⟨by show 0 ≤ (x.lns.getD k ⟨0, 0, 0, 0, 0⟩).af; omega, by show (x.lns.getD k ⟨0, 0, 0, 0, 0⟩).af < ((8 : Nat) : Int); omega⟩ ?_
      refine ask_intro (by show (x.lns.getD k ⟨0, 0, 0, 0, 0⟩).af.toNat < 8; omega) ?_
      refine bsplit_of_true (beq_iff_eq.2 c2) ?_
      refine ask_intro ⟨by show 0 ≤ (x.lns.getD k ⟨0, 0, 0, 0, 0⟩).at_; omega, by show (x.lns.getD k ⟨0, 0, 0, 0, 0⟩).at_ < ((8 : Nat) : Int); omega⟩ ?_
      refine ask_intro (by show (x.lns.getD k ⟨0, 0, 0, 0, 0⟩).at_.toNat < 8; omega) ?_
      exact ⟨⟨(k + 1, _), by show k + 1 ≤ _; omega, hl8.trans hS, hall⟩, le_of [(96, 96)] rfl rfl rfl rfl (tellHp_row rfl rfl rfl (fun j hj => sp2 j) tellHp_nil) (tellFr_x rfl ⟨DLe.refl _, DLe.refl _, DLe.refl _, DLe.refl _, trivial⟩ (tellFr_v rfl rfl (tellFr_row rfl rfl (tellFr_v rfl hwr trivial)))), by show x.lns.length - (k + 1) < x.lns.length - k; omega⟩
    · have hstep : laneSet g S (x.lns.getD k ⟨0, 0, 0, 0, 0⟩) = S.set (x.lns.getD k ⟨0, 0, 0, 0, 0⟩).af.toNat ⟨(x.lns.getD k ⟨0, 0, 0, 0, 0⟩).page, 3⟩ := by unfold laneSet; rw [if_neg c2, if_pos c1]
      rw [hstep] at hall hl8
      refine bsplit_of_true (decide_eq_true (show (k : Int) < (x.lns.length : Int) by omega)) ?_
      refine ask_intro ⟨by omega, by show (k : Int) < (x.lns.length : Int); omega, rfl⟩ ?_
      refine bsplit_of_true (beq_iff_eq.2 c1) ?_
      refine ask_intro ⟨by show 0 ≤ (x.lns.getD k ⟨0, 0, 0, 0, 0⟩).af; omega, by show (x.lns.getD k ⟨0, 0, 0, 0, 0⟩).af < ((8 : Nat) : Int); omega⟩ ?_
      refine ask_intro (by show (x.lns.getD k ⟨0, 0, 0, 0, 0⟩).af.toNat < 8; omega) ?_
      refine bsplit_of_false (beq_eq_false_iff_ne.2 c2) ?_
      exact ⟨⟨(k + 1, _), by show k + 1 ≤ _; omega, hl8.trans hS, hall⟩, le_of [(96, 96)] rfl rfl rfl rfl (tellHp_row rfl rfl rfl (fun j hj => sp S (x.lns.getD k ⟨0, 0, 0, 0, 0⟩).af.toNat ⟨(x.lns.getD k ⟨0, 0, 0, 0, 0⟩).page, 3⟩ hS (by omega) j) tellHp_nil) (tellFr_x rfl ⟨DLe.refl _, DLe.refl _, DLe.refl _, DLe.refl _, trivial⟩ (tellFr_v rfl rfl (tellFr_row rfl rfl (tellFr_v rfl hwr trivial)))), by show x.lns.length - (k + 1) < x.lns.length - k; omega⟩
    · have hstep : laneSet g S (x.lns.getD k ⟨0, 0, 0, 0, 0⟩) = S.set (x.lns.getD k ⟨0, 0, 0, 0, 0⟩).at_.toNat ⟨(x.lns.getD k ⟨0, 0, 0, 0, 0⟩).page, 1⟩ := by unfold laneSet; rw [if_pos c2, if_neg c1]
      rw [hstep] at hall hl8
      refine bsplit_of_true (decide_eq_true (show (k : Int) < (x.lns.length : Int) by omega)) ?_
      refine ask_intro ⟨by omega, by show (k : Int) < (x.lns.length : Int); omega, rfl⟩ ?_
      refine bsplit_of_false (beq_eq_false_iff_ne.2 c1) ?_
      refine bsplit_of_true (beq_iff_eq.2 c2) ?_
      refine ask_intro ⟨by show 0 ≤ (x.lns.getD k ⟨0, 0, 0, 0, 0⟩).at_; omega, by show (x.lns.getD k ⟨0, 0, 0, 0, 0⟩).at_ < ((8 : Nat) : Int); omega⟩ ?_
      refine ask_intro (by show (x.lns.getD k ⟨0, 0, 0, 0, 0⟩).at_.toNat < 8; omega) ?_
      exact ⟨⟨(k + 1, _), by show k + 1 ≤ _; omega, hl8.trans hS, hall⟩, le_of [(96, 96)] rfl rfl rfl rfl (tellHp_row rfl rfl rfl (fun j hj => sp S (x.lns.getD k ⟨0, 0, 0, 0, 0⟩).at_.toNat ⟨(x.lns.getD k ⟨0, 0, 0, 0, 0⟩).page, 1⟩ hS (by omega) j) tellHp_nil) (tellFr_x rfl ⟨DLe.refl _, DLe.refl _, DLe.refl _, DLe.refl _, trivial⟩ (tellFr_v rfl rfl (tellFr_row rfl rfl (tellFr_v rfl hwr trivial)))), by show x.lns.length - (k + 1) < x.lns.length - k; omega⟩
    · have hstep : laneSet g S (x.lns.getD k ⟨0, 0, 0, 0, 0⟩) = S := by unfold laneSet; rw [if_neg c2, if_neg c1]
      rw [hstep] at hall hl8
      refine bsplit_of_true (decide_eq_true (show (k : Int) < (x.lns.length : Int) by omega)) ?_
      refine ask_intro ⟨by omega, by show (k : Int) < (x.lns.length : Int); omega, rfl⟩ ?_
      refine bsplit_of_false (beq_eq_false_iff_ne.2 c1) ?_
      refine bsplit_of_false (beq_eq_false_iff_ne.2 c2) ?_
      exact ⟨⟨(k + 1, S), by show k + 1 ≤ _; omega, hS, hall⟩, le_of [(96, 96)] rfl rfl rfl rfl (tellHp_row rfl rfl rfl (fun j hj => rfl) tellHp_nil) (tellFr_x rfl ⟨DLe.refl _, DLe.refl _, DLe.refl _, DLe.refl _, trivial⟩ (tellFr_v rfl rfl (tellFr_row rfl rfl (tellFr_v rfl hwr trivial)))), by show x.lns.length - (k + 1) < x.lns.length - k; omega⟩
  obtain rfl : k = x.lns.length := by omega
  rw [List.drop_eq_nil_of_le (Nat.le_refl _)] at hall
  have hall : V = S := hall
  subst hall
  refine bsplit_of_false (decide_eq_false (show ¬ (x.lns.length : Int) < (x.lns.length : Int) by omega)) ?_
  exact ⟨⟨⟨rfl, rfl, hS.symm, fun j hj => ⟨rfl, rfl⟩⟩, trivial⟩, rfl⟩
def pagesFor (x : PolM) (g : Int) : Int × List PageM := if askedG x g = 0 then (0, pagesP x g) else (askedG x g, [])
theorem asked_pol {x : PolM} {g : Int} (h : askedG x g = 0) : polFault x = 0 := by
  unfold askedG at h
  split at h
  · assumption
  · rename_i e; exact absurd h e
theorem pagesFor_few (x : PolM) (g : Int) : (pagesFor x g).2.length ≤ 1048576 := by
  unfold pagesFor
  split
  · rename_i h
    have := pagesP_len (own_row h).2.2.1
    simp only; omega
  · simp
theorem c_impl_PagesFor (x : PolM) (hs : x.small) (g : Int) : FnOK Try.prog 33 [polLV x, di g] (.r (pgsR (pagesFor x g))) := by
  have c1 := c_impl_guestFault x hs g
  have cp := fun h : askedG x g = 0 => c_impl_Policy_pagesFor x hs g (own_row h).1 (own_row h).2.1 (own_row h).2.2.1 (lns_ok (asked_pol h))
  obtain ⟨r, hr⟩ : ∃ r, r = pagesFor x g := ⟨_, rfl⟩
  rw [← hr]
  unfold pagesFor at hr
  generalize askedG x g = e at *
  refine fn_of lv33 Try.func33 rfl rfl (by kernel_rfl) rfl ?_
  refine .inl ⟨_, _, rfl, c1, rfl, ?_⟩
  refine bsplit_intro (fun h => ?_) (fun h => ?_)
  · rw [if_neg (by simpa using h)] at hr
    subst hr
    exact ⟨⟨rfl, ⟨rfl, rfl⟩, trivial⟩, rfl⟩
  have h : e = 0 := by simpa using h
  rw [if_pos h] at hr
  subst hr
  refine .inl ⟨_, _, rfl, cp h, rfl, ?_⟩
  exact ⟨⟨rfl, ⟨rfl, rfl, rfl, fun j hj => ⟨rfl, rfl⟩⟩, trivial⟩, rfl⟩
theorem c_spec_PagesFor (x : PolM) (hs : x.small) (g : Int) : FnOK Try.prog 32 [polLV x, di g] (.r (pgsR (pagesFor x g))) := by
  have c1 := c_spec_l6Asked x hs g
  have cp := fun h : askedG x g = 0 => c_spec_l7Pages x hs g (own_row h).1 (own_row h).2.1 (own_row h).2.2.1 (lns_ok (asked_pol h))
  obtain ⟨r, hr⟩ : ∃ r, r = pagesFor x g := ⟨_, rfl⟩
  rw [← hr]
  unfold pagesFor at hr
  generalize askedG x g = e at *
  refine fn_of lv32 Try.func32 rfl rfl (by kernel_rfl) rfl ?_
  refine .inl ⟨_, _, rfl, c1, rfl, ?_⟩
  refine bsplit_intro (fun h => ?_) (fun h => ?_)
  · rw [if_neg (by simpa using h)] at hr
    subst hr
    exact ⟨⟨rfl, ⟨rfl, rfl⟩, trivial⟩, rfl⟩
  have h : e = 0 := by simpa using h
  rw [if_pos h] at hr
  subst hr
  refine .inl ⟨_, _, rfl, cp h, rfl, ?_⟩
  exact ⟨⟨rfl, ⟨rfl, rfl, rfl, fun j hj => ⟨rfl, rfl⟩⟩, trivial⟩, rfl⟩
end Go.Proofs.Ytojaakpnpdnbhaa.L

/- The pages of all guests: contracts. -/
set_option linter.unusedVariables false
set_option linter.unusedSimpArgs false
set_option maxRecDepth 100000
namespace Go.Proofs.Ytojaakpnpdnbhaa.L
open Go.RowKit
abbrev pgssF (l : List (List PageM)) (i : Nat) : List D := [pages (l.getD i [])]
abbrev pgss (l : List (List PageM)) : D := .l l.length (pgssF l)
abbrev lenP (l : List (List PageM)) (i : Nat) : Nat := (l.getD i []).length
abbrev inP (l : List (List PageM)) (i j : Nat) : List D := pagesF (l.getD i []) j
abbrev oPgss (l : List (List PageM)) : RC := .ownn 56 133 2 l.length (lenP l) (inP l)
abbrev mapsR (p : Int × List (List PageM)) : RV1 := .agg [.v (.int .i64 p.1), oPgss p.2]
abbrev mapsLV (p : Int × List (List PageM)) : LV := .agg [di p.1, .d (pgss p.2)]
abbrev pgNest (x : PolM) (n : Nat) : Ent := .nest 56 133 2 n (fun i : Nat => (pagesP x (i : Int)).length) (fun i : Nat => pagesF (pagesP x (i : Int))) []
def mapsL (x : PolM) : List (List PageM) := (List.range x.own.length).map fun i : Nat => pagesP x (i : Int)
def buildMaps (x : PolM) : Int × List (List PageM) := if polFault x = 0 then (0, mapsL x) else (polFault x, [])
theorem mapsL_get (x : PolM) (i : Nat) (h : i < x.own.length) : (mapsL x).getD i [] = pagesP x i := by simp [mapsL, List.getD, h]
theorem pol_own {x : PolM} (h : polFault x = 0) (i : Nat) (hi : i < x.own.length) : (x.own.getD i []).length ≤ 5 := by
  have ha : askedG x i = 0 := by
    unfold askedG
    rw [if_pos h]
    have : guestB x.own.length i = true := inR_iff.2 ⟨by omega, by omega⟩
    rw [this]; rfl
  exact (own_row ha).2.2.1
theorem pol_few {x : PolM} (h : polFault x = 0) : 1 ≤ x.own.length ∧ x.own.length ≤ 3 := by
  have ho : ownBad x.own = 0 := by
    unfold polFault at h
    split at h
    · assumption
    · rename_i e; exact absurd h e
  unfold ownBad at ho
  cases hq : inR (x.own.length : Int) 1 3 with
  | false => rw [hq] at ho; simp at ho
  | true => have := inR_iff.1 hq; omega
set_option maxHeartbeats 1600000 in
theorem c_impl_BuildMaps (x : PolM) (hs : x.small) : FnOK Try.prog 43 [polLV x] (.r (mapsR (buildMaps x))) := by
  have c1 := c_impl_PolicyFault x hs
  have c2 := fun h : polFault x = 0 => fun (k : Nat) (hk : k < x.own.length) => c_impl_Policy_pagesFor x hs k (by omega) (by omega) (pol_own h k hk) (lns_ok h)
  have hfew := fun h : polFault x = 0 => (pol_few h).2
  obtain ⟨r, hr⟩ : ∃ r, r = buildMaps x := ⟨_, rfl⟩
  rw [← hr]
  unfold buildMaps at hr
  generalize polFault x = e at *
  refine fn_of lv43 Try.func43 rfl rfl (by kernel_rfl) rfl ?_
  refine .inl ⟨_, _, rfl, c1, rfl, ?_⟩
  refine bsplit_intro (fun h => ?_) (fun h => ?_)
  · rw [if_neg (by simpa using h)] at hr
    subst hr
    exact ⟨⟨rfl, ⟨rfl, rfl⟩, trivial⟩, rfl⟩
  have h : e = 0 := by simpa using h
  rw [if_pos h] at hr
  subst hr
  have c2 := c2 h
  have hfew := hfew h
  refine ask_intro trivial ?_
  refine ⟨{ i : Nat // i ≤ x.own.length }, fun i => ⟨frL [(1, .ptr 64 0), (2, .ptr 65 0), (4, .row 66), (15, di x.own.length), (16, di i.1)], hpL [(64, .box 38 [.d (owns x.own), .d (lanes x.lns), .d (bells x.bls), .d (slots x.pln)]), (65, .box 71 [di 0, .d (.v (.slice none 0 0))]), (66, pgNest x i.1)], 97, 0⟩, fun i => x.own.length - i.1, ⟨0, by omega⟩,
    le_of [(64, 0), (65, 32), (66, 12288)] rfl rfl rfl rfl (tellHp_box rfl rfl ⟨DLe.refl _, DLe.refl _, DLe.refl _, DLe.refl _, trivial⟩ (tellHp_box rfl rfl ⟨rfl, rfl, trivial⟩ (tellHp_nest rfl rfl rfl (fun i hi => absurd hi (Nat.not_lt_zero _)) tellHp_nil))) (tellFr_ptr rfl rfl (tellFr_ptr rfl rfl (tellFr_row rfl rfl (tellFr_v rfl rfl (tellFr_v rfl rfl trivial))))), ?_⟩
  rintro ⟨k, hk⟩
  by_cases hk2 : k < x.own.length
  · have hwr := congrArg (Value.int .i64) (wrap1 hk2 (by omega))
    refine bsplit_of_true (decide_eq_true (show (k : Int) < (x.own.length : Int) by omega)) ?_
    refine .inl ⟨_, _, rfl, c2 k hk2, rfl, ?_⟩
    refine ask_intro trivial ?_
    refine ask_intro ⟨by show (k + 1) * 24 ≤ 140737488355328; omega, by show k + 1 ≤ 9223372036854775807; omega, trivial⟩ ?_
    refine ⟨⟨k + 1, by omega⟩, le_of [(64, 64), (65, 65), (66, 8417)] rfl rfl rfl rfl (tellHp_box rfl rfl ⟨DLe.refl _, DLe.refl _, DLe.refl _, DLe.refl _, trivial⟩ (tellHp_box rfl rfl ⟨rfl, rfl, trivial⟩ (tellHp_hole rfl rfl rfl rfl rfl rfl ⟨rfl, fun j hj => rfl⟩ (fun j hj hne => ⟨?_, fun q hq => ?_⟩) tellHp_nil))) (tellFr_ptr rfl rfl (tellFr_ptr rfl rfl (tellFr_row rfl rfl (tellFr_v rfl rfl (tellFr_v rfl hwr trivial))))), by show x.own.length - (k + 1) < x.own.length - k; omega⟩
    · show (if j < k then (pagesP x j).length else 0) = _
      have hj : j < k + 1 := hj
      have hne : j ≠ k := hne
      rw [if_pos (by omega)]
    · show (if j < k then pagesF (pagesP x j) else fun _ => []) q = _
      have hj : j < k + 1 := hj
      have hne : j ≠ k := hne
      rw [if_pos (by omega)]
  obtain rfl : k = x.own.length := by omega
  refine bsplit_of_false (decide_eq_false (show ¬ (x.own.length : Int) < (x.own.length : Int) by omega)) ?_
  refine ⟨⟨rfl, ⟨rfl, rfl, rfl, ?_, fun i hi => ⟨?_, fun j hj => ⟨?_, rfl⟩⟩⟩, trivial⟩, rfl⟩
  · show x.own.length = (mapsL x).length
    simp [mapsL]
  · have hi : i < (mapsL x).length := hi
    show (pagesP x i).length = ((mapsL x).getD i []).length
    rw [mapsL_get x i (by simpa [mapsL] using hi)]
  · have hi : i < (mapsL x).length := hi
    show pagesF (pagesP x i) j = pagesF ((mapsL x).getD i []) j
    rw [mapsL_get x i (by simpa [mapsL] using hi)]
set_option maxHeartbeats 1600000 in
theorem c_spec_BuildMaps (x : PolM) (hs : x.small) : FnOK Try.prog 42 [polLV x] (.r (mapsR (buildMaps x))) := by
  have c1 := c_spec_l6Fault x hs
  have c2 := fun h : polFault x = 0 => fun (k : Nat) (hk : k < x.own.length) => c_spec_l7Pages x hs k (by omega) (by omega) (pol_own h k hk) (lns_ok h)
  have hfew := fun h : polFault x = 0 => (pol_few h).2
  obtain ⟨r, hr⟩ : ∃ r, r = buildMaps x := ⟨_, rfl⟩
  rw [← hr]
  unfold buildMaps at hr
  generalize polFault x = e at *
  refine fn_of lv42 Try.func42 rfl rfl (by kernel_rfl) rfl ?_
  refine .inl ⟨_, _, rfl, c1, rfl, ?_⟩
  refine bsplit_intro (fun h => ?_) (fun h => ?_)
  · rw [if_neg (by simpa using h)] at hr
    subst hr
    exact ⟨⟨rfl, ⟨rfl, rfl⟩, trivial⟩, rfl⟩
  have h : e = 0 := by simpa using h
  rw [if_pos h] at hr
  subst hr
  have c2 := c2 h
  have hfew := hfew h
  refine ⟨{ i : Nat // i ≤ x.own.length }, fun i => ⟨frL [(1, .ptr 64 0), (2, .ptr 65 0), (4, .ptr 66 0), (5, di i.1)], hpL [(64, .box 38 [.d (owns x.own), .d (lanes x.lns), .d (bells x.bls), .d (slots x.pln)]), (65, .box 71 [di 0, .d (.v (.slice none 0 0))]), (66, .box 71 [di 0, .row 67]), (67, pgNest x i.1)], 97, 0⟩, fun i => x.own.length - i.1, ⟨0, by omega⟩,
    Le.trans (nilBox (k := 12320) (i := 1) (t := 71) (cs := [di 0, .d (.v (.slice none 0 0))]) rfl rfl (pgNest x 0) rfl rfl) (le_of [(64, 0), (65, 32), (66, 12320), (67, 20480)] rfl rfl rfl rfl (tellHp_box rfl rfl ⟨DLe.refl _, DLe.refl _, DLe.refl _, DLe.refl _, trivial⟩ (tellHp_box rfl rfl ⟨rfl, rfl, trivial⟩ (tellHp_box rfl rfl ⟨rfl, rfl, trivial⟩ (tellHp_nest rfl rfl rfl (fun i hi => absurd hi (Nat.not_lt_zero _)) tellHp_nil)))) (tellFr_ptr rfl rfl (tellFr_ptr rfl rfl (tellFr_ptr rfl rfl (tellFr_v rfl rfl trivial))))), ?_⟩
  rintro ⟨k, hk⟩
  by_cases hk2 : k < x.own.length
  · have hwr := congrArg (Value.int .i64) (wrap1 hk2 (by omega))
    refine bsplit_of_true (decide_eq_true (show (k : Int) < (x.own.length : Int) by omega)) ?_
    refine .inl ⟨_, _, rfl, c2 k hk2, rfl, ?_⟩
    refine ask_intro trivial ?_
    refine ask_intro ⟨by show (k + 1) * 24 ≤ 140737488355328; omega, by show k + 1 ≤ 9223372036854775807; omega, trivial⟩ ?_
    refine chk_intro (by kernel_rfl) ?_
    refine ⟨⟨k + 1, by omega⟩, le_of [(64, 64), (65, 65), (66, 66), (67, 4353)] rfl rfl rfl rfl (tellHp_box rfl rfl ⟨DLe.refl _, DLe.refl _, DLe.refl _, DLe.refl _, trivial⟩ (tellHp_box rfl rfl ⟨rfl, rfl, trivial⟩ (tellHp_box rfl rfl ⟨rfl, rfl, trivial⟩ (tellHp_hole rfl rfl rfl rfl rfl rfl ⟨rfl, fun j hj => rfl⟩ (fun j hj hne => ⟨?_, fun q hq => ?_⟩) tellHp_nil)))) (tellFr_ptr rfl rfl (tellFr_ptr rfl rfl (tellFr_ptr rfl rfl (tellFr_v rfl hwr trivial)))), by show x.own.length - (k + 1) < x.own.length - k; omega⟩
    · show (if j < k then (pagesP x j).length else 0) = _
      have hj : j < k + 1 := hj
      have hne : j ≠ k := hne
      rw [if_pos (by omega)]
    · show (if j < k then pagesF (pagesP x j) else fun _ => []) q = _
      have hj : j < k + 1 := hj
      have hne : j ≠ k := hne
      rw [if_pos (by omega)]
  obtain rfl : k = x.own.length := by omega
  refine bsplit_of_false (decide_eq_false (show ¬ (x.own.length : Int) < (x.own.length : Int) by omega)) ?_
  refine ⟨⟨rfl, ⟨rfl, rfl, rfl, ?_, fun i hi => ⟨?_, fun j hj => ⟨?_, rfl⟩⟩⟩, trivial⟩, rfl⟩
  · show x.own.length = (mapsL x).length
    simp [mapsL]
  · have hi : i < (mapsL x).length := hi
    show (pagesP x i).length = ((mapsL x).getD i []).length
    rw [mapsL_get x i (by simpa [mapsL] using hi)]
  · have hi : i < (mapsL x).length := hi
    show pagesF (pagesP x i) j = pagesF ((mapsL x).getD i []) j
    rw [mapsL_get x i (by simpa [mapsL] using hi)]
end Go.Proofs.Ytojaakpnpdnbhaa.L

/- The free pages of a policy: contracts. -/
set_option linter.unusedVariables false
set_option linter.unusedSimpArgs false
set_option maxRecDepth 100000
namespace Go.Proofs.Ytojaakpnpdnbhaa.L
open Go.RowKit
theorem c_slices_IndexFunc_LaneI (g : Nat) (v : Int) (p : LaneM → Bool) (hg : ∀ x, FnOK Try.prog g [laneLV x, .dptr [dI v]] (rb (p x))) (l : List LaneM) (hl : l.length ≤ 4611686018427387904) : FnOK Try.prog 177 [.d (lanes l), .fn g [.dptr [dI v]]] (ri (idxG p l 0)) := by
  refine fn_of lv177 Try.func177 rfl rfl (by kernel_rfl) rfl ?_
  refine ⟨{ i : Nat // i ≤ l.length ∧ idxG p l i = idxG p l 0 }, fun i => ⟨frL [(0, .d (lanes l)), (1, .fn g [.dptr [dI v]]), (7, di l.length), (8, di i.1)], hpL [], 0, 0⟩, fun i => l.length - i.1, ⟨0, by omega, rfl⟩,
    le_of [] rfl rfl rfl rfl trivial (tellFr_d rfl (DLe.refl _) (tellFr_fn rfl ⟨⟨DLe.refl _, trivial⟩, trivial⟩ (tellFr_v rfl rfl (tellFr_v rfl rfl trivial)))), ?_⟩
  rintro ⟨i, hi, hall⟩
  refine bsplit_intro (fun h => ?_) (fun h => ?_)
  · have h : i < l.length := by simp at h; exact h
    refine ask_intro ⟨by omega, by simp; omega, rfl⟩ ?_
    refine .inl ⟨_, _, rfl, hg (l.getD i ⟨0, 0, 0, 0, 0⟩), rfl, ?_⟩
    refine bsplit_intro (fun h2 => ?_) (fun h2 => ?_)
    · exact ⟨⟨congrArg (Value.int .i64) ((idxG_hit ⟨0, 0, 0, 0, 0⟩ h h2).symm.trans hall), trivial⟩, rfl⟩
    · exact ⟨⟨i + 1, by omega, (idxG_miss ⟨0, 0, 0, 0, 0⟩ h h2).symm.trans hall⟩, le_of [] rfl rfl rfl rfl trivial (tellFr_d rfl (DLe.refl _) (tellFr_fn rfl ⟨⟨DLe.refl _, trivial⟩, trivial⟩ (tellFr_v rfl rfl (tellFr_v rfl (congrArg (Value.int .i64) (wrap1 h hl)) trivial)))), by show l.length - (i + 1) < l.length - i; omega⟩
  · simp at h
    exact ⟨⟨congrArg (Value.int .i64) ((idxG_end h).symm.trans hall), trivial⟩, rfl⟩
theorem c_impl_FreePages_1 (x : LaneM) (v : Int) : FnOK Try.prog 115 [laneLV x, .dptr [dI v]] (rb (x.page == v)) := by
  refine fn_of lv115 Try.func115 rfl rfl (by kernel_rfl) rfl ?_
  exact ⟨⟨rfl, trivial⟩, rfl⟩
theorem c_slices_ContainsFunc_LaneI (v : Int) (l : List LaneM) (hl : l.length ≤ 4611686018427387904) : FnOK Try.prog 114 [.d (lanes l), .fn 115 [.dptr [dI v]]] (rb (l.any fun x => x.page == v)) := by
  refine fn_of lv114 Try.func114 rfl rfl (by kernel_rfl) rfl ?_
  refine .inl ⟨_, _, rfl, c_slices_IndexFunc_LaneI 115 v (fun x => x.page == v) (fun x => c_impl_FreePages_1 x v) l hl, rfl, ?_⟩
  exact ⟨⟨congrArg Value.bool (idxG_any l _), trivial⟩, rfl⟩
def freeB (x : PolM) (v : Int) : Bool := decide (ownerP x.own v < 0) && !(x.lns.any fun l => l.page == v)
def freeR (p : Int → Bool) : Nat → Int → List Int
  | 0, _ => []
  | n + 1, v => if p v = true then v :: freeR p n (v + 1) else freeR p n (v + 1)
theorem freeR_len (p : Int → Bool) : ∀ (n : Nat) (v : Int), (freeR p n v).length ≤ n
  | 0, _ => Nat.le_refl _
  | n + 1, v => by
    have := freeR_len p n (v + 1)
    simp only [freeR]
    split
    · simp only [List.length_cons]; omega
    · omega
def freePages (x : PolM) : Int × List Int := if polFault x = 0 then (0, freeR (freeB x) 24 0) else (polFault x, [])
theorem freePages_few (x : PolM) : (freePages x).2.length ≤ 1048576 := by
  unfold freePages
  split
  · have := freeR_len (freeB x) 24 0
    simp only; omega
  · simp
set_option maxHeartbeats 1600000 in
theorem c_impl_FreePages (x : PolM) (hs : x.small) : FnOK Try.prog 51 [polLV x] (.r (irsR (freePages x))) := by
  have hl := hs.lns
  have c1 := c_impl_PolicyFault x hs
  obtain ⟨r, hr⟩ : ∃ r, r = freePages x := ⟨_, rfl⟩
  rw [← hr]
  unfold freePages at hr
  generalize polFault x = e at *
  obtain ⟨V, hV⟩ : ∃ V, V = freeR (freeB x) 24 0 := ⟨_, rfl⟩
  rw [← hV] at hr
  refine fn_of lv51 Try.func51 rfl rfl (by kernel_rfl) rfl ?_
  refine .inl ⟨_, _, rfl, c1, rfl, ?_⟩
  refine bsplit_intro (fun h => ?_) (fun h => ?_)
  · rw [if_neg (by simpa using h)] at hr
    subst hr
    exact ⟨⟨rfl, ⟨rfl, rfl⟩, trivial⟩, rfl⟩
  rw [if_pos (by simpa using h)] at hr
  refine ⟨{ p : Nat × List Int // p.1 ≤ 24 ∧ p.2.length ≤ p.1 ∧ p.2 ++ freeR (freeB x) (24 - p.1) p.1 = V }, fun p => ⟨frL [(1, .ptr 64 0), (2, .ptr 65 0), (4, .row 67), (5, .ptr 66 0)], hpL [(64, .box 38 [.d (owns x.own), .d (lanes x.lns), .d (bells x.bls), .d (slots x.pln)]), (65, .box 48 [di 0, .d (.v (.slice none 0 0))]), (66, .box 2 [di p.1.1]), (67, .row 2 1 p.1.2.length (intsF p.1.2))], 96, 0⟩, fun p => 24 - p.1.1, ⟨(0, []), by omega, by simp, hV.symm⟩,
    le_of [(64, 0), (65, 32), (66, 16384), (67, 12288)] rfl rfl rfl rfl (tellHp_box rfl rfl ⟨DLe.refl _, DLe.refl _, DLe.refl _, DLe.refl _, trivial⟩ (tellHp_box rfl rfl ⟨rfl, rfl, trivial⟩ (tellHp_box rfl rfl ⟨rfl, trivial⟩ (tellHp_row rfl rfl rfl (fun j hj => absurd hj (Nat.not_lt_zero _)) tellHp_nil)))) (tellFr_ptr rfl rfl (tellFr_ptr rfl rfl (tellFr_row rfl rfl (tellFr_ptr rfl rfl trivial)))), ?_⟩
  rintro ⟨⟨k, S⟩, hk, hSl, hall⟩
  simp only at hk hSl hall
  by_cases h1 : k < 24
  rotate_left
  · obtain rfl : k = 24 := by omega
    have hall : S ++ [] = V := hall
    rw [List.append_nil] at hall
    subst hall
    refine bsplit_of_false (decide_eq_false (show ¬ ((24 : Nat) : Int) < 24 by omega)) ?_
    subst hr
    exact ⟨⟨rfl, ⟨rfl, rfl, rfl, fun j hj => ⟨rfl, rfl⟩⟩, trivial⟩, rfl⟩
  obtain ⟨n, hn⟩ : ∃ n, 24 - k = n + 1 := ⟨23 - k, by omega⟩
  have hn2 : 24 - (k + 1) = n := by omega
  rw [hn] at hall
  have hstep : freeR (freeB x) (n + 1) k = if freeB x k = true then (k : Int) :: freeR (freeB x) n (k + 1) else freeR (freeB x) n (k + 1) := rfl
  rw [hstep] at hall
  have c2 := c_impl_owner x hs k
  have c3 := c_slices_ContainsFunc_LaneI k x.lns (by omega)
  have hnext : ∀ b, freeB x k = b → (if b = true then S ++ [(k : Int)] else S) ++ freeR (freeB x) n ((k + 1 : Nat) : Int) = V := fun b hb => by
    rw [hb] at hall
    cases b with
    | true =>
      rw [if_pos rfl] at hall ⊢
      rw [← hall]; simp
    | false =>
      rw [if_neg (by decide)] at hall ⊢
      exact hall
  unfold freeB at hnext
  generalize ownerP x.own k = ow at hnext c2
  generalize x.lns.any (fun l => l.page == (k : Int)) = an at hnext c3
  refine bsplit_of_true (decide_eq_true (by show (k : Int) < 24; omega)) ?_
  refine .inl ⟨_, _, rfl, c2, rfl, ?_⟩
  refine bsplit_intro (fun h2 => ?_) (fun h2 => ?_)
  · have h2 : decide (ow < 0) = true := h2
    rw [h2] at hnext
    repeat' (first | refine bsplit_true ?_ | refine bsplit_false ?_)
    refine .inl ⟨_, _, rfl, c3, rfl, ?_⟩
    cases an with
    | true =>
      have hnx := hnext false rfl
      repeat' (first | refine bsplit_true ?_ | refine bsplit_false ?_)
      refine ⟨⟨(k + 1, S), by show k + 1 ≤ 24; omega, by show S.length ≤ k + 1; omega, by show S ++ freeR _ (24 - (k + 1)) _ = V; rw [hn2]; exact hnx⟩, le_of [(64, 64), (65, 65), (66, 12384), (67, 67)] rfl rfl rfl rfl (tellHp_box rfl rfl ⟨DLe.refl _, DLe.refl _, DLe.refl _, DLe.refl _, trivial⟩ (tellHp_box rfl rfl ⟨rfl, rfl, trivial⟩ (tellHp_box rfl rfl ⟨congrArg (Value.int .i64) (wrap1 (show k < 25 by omega) (by omega)), trivial⟩ (tellHp_row rfl rfl rfl (fun j hj => rfl) tellHp_nil)))) (tellFr_ptr rfl rfl (tellFr_ptr rfl rfl (tellFr_row rfl rfl (tellFr_ptr rfl rfl trivial)))), by show 24 - (k + 1) < 24 - k; omega⟩
    | false =>
      have hnx := hnext true rfl
      repeat' (first | refine bsplit_true ?_ | refine bsplit_false ?_)
      refine ask_intro ⟨by show (S.length + 1) * 8 ≤ _; omega, by show S.length + 1 ≤ 9223372036854775807; omega, fun q hq => ?_⟩ ?_
      · obtain rfl : q = 0 := by omega
        rfl
      refine ⟨⟨(k + 1, S ++ [(k : Int)]), by show k + 1 ≤ 24; omega, by show (S ++ [(k : Int)]).length ≤ k + 1; simp; omega, by show (S ++ [(k : Int)]) ++ freeR _ (24 - (k + 1)) _ = V; rw [hn2]; exact hnx⟩, le_of [(64, 64), (65, 65), (66, 16480), (67, 8384)] rfl rfl rfl rfl (tellHp_box rfl rfl ⟨DLe.refl _, DLe.refl _, DLe.refl _, DLe.refl _, trivial⟩ (tellHp_box rfl rfl ⟨rfl, rfl, trivial⟩ (tellHp_box rfl rfl ⟨congrArg (Value.int .i64) (wrap1 (show k < 25 by omega) (by omega)), trivial⟩ (tellHp_row rfl rfl (show S.length + 1 = (S ++ [(k : Int)]).length by simp) (fun q hq => upto_snoc S _ _ rfl q hq) tellHp_nil)))) (tellFr_ptr rfl rfl (tellFr_ptr rfl rfl (tellFr_row rfl rfl (tellFr_ptr rfl rfl trivial)))), by show 24 - (k + 1) < 24 - k; omega⟩
  · have h2 : decide (ow < 0) = false := h2
    rw [h2] at hnext
    have hnx := hnext false rfl
    repeat' (first | refine bsplit_true ?_ | refine bsplit_false ?_)
    refine ⟨⟨(k + 1, S), by show k + 1 ≤ 24; omega, by show S.length ≤ k + 1; omega, by show S ++ freeR _ (24 - (k + 1)) _ = V; rw [hn2]; exact hnx⟩, le_of [(64, 64), (65, 65), (66, 12384), (67, 67)] rfl rfl rfl rfl (tellHp_box rfl rfl ⟨DLe.refl _, DLe.refl _, DLe.refl _, DLe.refl _, trivial⟩ (tellHp_box rfl rfl ⟨rfl, rfl, trivial⟩ (tellHp_box rfl rfl ⟨congrArg (Value.int .i64) (wrap1 (show k < 25 by omega) (by omega)), trivial⟩ (tellHp_row rfl rfl rfl (fun j hj => rfl) tellHp_nil)))) (tellFr_ptr rfl rfl (tellFr_ptr rfl rfl (tellFr_row rfl rfl (tellFr_ptr rfl rfl trivial)))), by show 24 - (k + 1) < 24 - k; omega⟩
theorem one_row (x : Int) (g : Nat → List D) (hg : g 0 = [.v (.int .i64 x)]) (q : Nat) (hq : q < 1) : g q = intsF ([] ++ [x]) q := by
  obtain rfl : q = 0 := by omega
  rw [hg]; rfl
end Go.Proofs.Ytojaakpnpdnbhaa.L

/- Whether maps are safe, of the program: contracts. -/
set_option linter.unusedVariables false
set_option linter.unusedSimpArgs false
set_option maxRecDepth 100000
namespace Go.Proofs.Ytojaakpnpdnbhaa.L
open Go.RowKit
abbrev orI (a b : Int) : Int := IntKind.i64.wrap (BitVec.ofInt 64 a ||| BitVec.ofInt 64 b).toNat
def kstep (t : Int) (out : Int) (p : PageM) : Int := if p.to = t then orI (if 0 > out then 0 else out) p.kinds else out
def kindsT (l : List PageM) (t : Int) : Int := l.foldl (kstep t) (-1)
theorem fold_step (l : List PageM) (t : Int) (i : Nat) (h : i < l.length) : (l.take (i + 1)).foldl (kstep t) (-1) = kstep t ((l.take i).foldl (kstep t) (-1)) (l.getD i ⟨0, 0⟩) := by
  rw [List.take_succ_eq_append_getElem h, getD_at ⟨0, 0⟩ h, List.foldl_append]
  rfl
set_option maxHeartbeats 1600000 in
theorem c_impl_kindsTo (l : List PageM) (hl : l.length ≤ 1048576) (t : Int) : FnOK Try.prog 172 [.d (pages l), di t] (ri (kindsT l t)) := by
  obtain ⟨v, hv⟩ : ∃ v, v = kindsT l t := ⟨_, rfl⟩
  rw [← hv]
  unfold kindsT at hv
  refine fn_of lv172 Try.func172 rfl rfl (by kernel_rfl) rfl ?_
  refine ⟨{ i : Nat // i ≤ l.length }, fun i => ⟨frL [(1, di t), (5, di ((l.take i.1).foldl (kstep t) (-1))), (8, .d (pages l)), (9, di l.length), (10, di i.1)], hpL [], 96, 0⟩, fun i => l.length - i.1, ⟨0, by omega⟩,
    le_of [] rfl rfl rfl rfl trivial (tellFr_v rfl rfl (tellFr_v rfl rfl (tellFr_d rfl (DLe.refl _) (tellFr_v rfl rfl (tellFr_v rfl rfl trivial))))), ?_⟩
  rintro ⟨i, hi⟩
  by_cases h : i < l.length
  · have hst := fold_step l t i h
    unfold kstep at hst
    refine bsplit_of_true (decide_eq_true (show (i : Int) < (l.length : Int) by omega)) ?_
    refine ask_intro ⟨by omega, by show (i : Int) < (l.length : Int); omega, rfl⟩ ?_
    by_cases ht : (l.getD i ⟨0, 0⟩).to = t
    · rw [if_pos ht] at hst
      refine bsplit_of_true (decide_eq_true ht) ?_
      exact ⟨⟨i + 1, by omega⟩, le_of [] rfl rfl rfl rfl trivial (tellFr_v rfl rfl (tellFr_v rfl (congrArg (Value.int .i64) hst.symm) (tellFr_d rfl (DLe.refl _) (tellFr_v rfl rfl (tellFr_v rfl (congrArg (Value.int .i64) (wrap1 h (by omega))) trivial))))), by show l.length - (i + 1) < l.length - i; omega⟩
    · rw [if_neg ht] at hst
      refine bsplit_of_false (decide_eq_false ht) ?_
      exact ⟨⟨i + 1, by omega⟩, le_of [] rfl rfl rfl rfl trivial (tellFr_v rfl rfl (tellFr_v rfl (congrArg (Value.int .i64) hst.symm) (tellFr_d rfl (DLe.refl _) (tellFr_v rfl rfl (tellFr_v rfl (congrArg (Value.int .i64) (wrap1 h (by omega))) trivial))))), by show l.length - (i + 1) < l.length - i; omega⟩
  · obtain rfl : i = l.length := by omega
    refine bsplit_of_false (decide_eq_false (show ¬ (l.length : Int) < (l.length : Int) by omega)) ?_
    exact ⟨⟨congrArg (Value.int .i64) (show (l.take l.length).foldl (kstep t) (-1) = v by rw [List.take_length, hv]), trivial⟩, rfl⟩
def shB (a b : List PageM) (p : Int → Int → Bool) (v : Int) : Bool := decide (kindsT a v ≥ 0) && (decide (kindsT b v ≥ 0) && p (kindsT a v) (kindsT b v))
theorem c_impl_WritableBoth_1 (x y : Int) : FnOK Try.prog 171 [di x, di y] (rb (andI (orI x y) 2 != 0)) := by
  refine fn_of lv171 Try.func171 rfl rfl (by kernel_rfl) rfl ?_
  exact ⟨⟨rfl, trivial⟩, rfl⟩
set_option maxHeartbeats 1600000 in
theorem c_impl_shared (a b : List PageM) (ha : a.length ≤ 1048576) (hb : b.length ≤ 1048576) (fa : pagesFault a 24 = 0) (fb : pagesFault b 24 = 0) (g : Nat) (p : Int → Int → Bool) (hg : ∀ x y, FnOK Try.prog g [di x, di y] (rb (p x y))) : FnOK Try.prog 170 [.d (pages a), .d (pages b), .fn g []] (.r (irsR (0, freeR (shB a b p) 24 0))) := by
  have c1 := c_impl_PagesFault a 24 ha
  have c2 := c_impl_PagesFault b 24 hb
  rw [fa] at c1
  rw [fb] at c2
  have c3 := c_impl_firstOf [0, 0] (by simp)
  obtain ⟨V, hV⟩ : ∃ V, V = freeR (shB a b p) 24 0 := ⟨_, rfl⟩
  rw [← hV]
  refine fn_of lv170 Try.func170 rfl rfl (by kernel_rfl) rfl ?_
  refine .inl ⟨_, _, rfl, c1, rfl, ?_⟩
  refine .inl ⟨_, _, rfl, c2, rfl, ?_⟩
  refine .inl ⟨_, _, rfl, c3.weak ⟨LVLe.d (DLe.l rfl (fun i hi => litD_eq [0, 0] i hi)), trivial⟩, rfl, ?_⟩
  refine bsplit_of_false (by decide) ?_
  refine ⟨{ q : Nat × List Int // q.1 ≤ 24 ∧ q.2.length ≤ q.1 ∧ q.2 ++ freeR (shB a b p) (24 - q.1) q.1 = V }, fun q => ⟨frL [(0, .d (pages a)), (1, .d (pages b)), (2, .fn g []), (6, .ptr 65 0), (8, .row 67), (9, di q.1.1)], hpL [(65, .box 48 [di 0, .d (.v (.slice none 0 0))]), (67, rowE q.1.2)], 96, 0⟩, fun q => 24 - q.1.1, ⟨(0, []), by omega, by simp, hV.symm⟩,
    le_of [(65, 0), (67, 12288)] rfl rfl rfl rfl (tellHp_box rfl rfl ⟨rfl, rfl, trivial⟩ (tellHp_row rfl rfl rfl (fun j hj => absurd hj (Nat.not_lt_zero _)) tellHp_nil)) (tellFr_d rfl (DLe.refl _) (tellFr_d rfl (DLe.refl _) (tellFr_fn rfl trivial (tellFr_ptr rfl rfl (tellFr_row rfl rfl (tellFr_v rfl rfl trivial)))))), ?_⟩
  rintro ⟨⟨k, S⟩, hk, hSl, hall⟩
  simp only at hk hSl hall
  by_cases h : k < 24
  · have ck := c_impl_kindsTo a ha k
    have cl := c_impl_kindsTo b hb k
    have e24 : 24 - k = (24 - (k + 1)) + 1 := by omega
    rw [e24, freeR] at hall
    unfold shB at hall
    have hwk := congrArg (Value.int .i64) (wrap1 h (by omega))
    generalize kindsT a k = X at *
    generalize kindsT b k = Y at *
    refine bsplit_of_true (decide_eq_true (show (k : Int) < 24 by omega)) ?_
    refine .inl ⟨_, _, rfl, ck, rfl, ?_⟩
    have cg := hg X Y
    have hsl : (S ++ [(k : Int)]).length = S.length + 1 := by simp
    have hall : S ++ (if (decide (X ≥ 0) && (decide (Y ≥ 0) && p X Y)) = true then (k : Int) :: freeR (shB a b p) (24 - (k + 1)) ((k + 1 : Nat) : Int) else freeR (shB a b p) (24 - (k + 1)) ((k + 1 : Nat) : Int)) = V := hall
    by_cases hX : X ≥ 0
    rotate_left
    · have dX : decide (X ≥ 0) = false := decide_eq_false hX
      rw [dX, Bool.false_and, if_neg (by decide)] at hall
      refine .inl ⟨_, _, rfl, cl, rfl, ?_⟩
      repeat' (first | refine bsplit_of_false dX ?_ | refine bsplit_false ?_)
      exact ⟨⟨(k + 1, S), by show k + 1 ≤ 24; omega, by show S.length ≤ k + 1; omega, hall⟩, le_of [(65, 65), (67, 67)] rfl rfl rfl rfl (tellHp_box rfl rfl ⟨rfl, rfl, trivial⟩ (tellHp_row rfl rfl rfl (fun j hj => rfl) tellHp_nil)) (tellFr_d rfl (DLe.refl _) (tellFr_d rfl (DLe.refl _) (tellFr_fn rfl trivial (tellFr_ptr rfl rfl (tellFr_row rfl rfl (tellFr_v rfl hwk trivial)))))), by show 24 - (k + 1) < 24 - k; omega⟩
    have dX : decide (X ≥ 0) = true := decide_eq_true hX
    rw [dX, Bool.true_and] at hall
    by_cases hY : Y ≥ 0
    rotate_left
    · have dY : decide (Y ≥ 0) = false := decide_eq_false hY
      rw [dY, Bool.false_and, if_neg (by decide)] at hall
      refine .inl ⟨_, _, rfl, cl, rfl, ?_⟩
      repeat' (first | refine bsplit_of_true dX ?_ | refine bsplit_of_false dY ?_ | refine bsplit_true ?_ | refine bsplit_false ?_)
      exact ⟨⟨(k + 1, S), by show k + 1 ≤ 24; omega, by show S.length ≤ k + 1; omega, hall⟩, le_of [(65, 65), (67, 67)] rfl rfl rfl rfl (tellHp_box rfl rfl ⟨rfl, rfl, trivial⟩ (tellHp_row rfl rfl rfl (fun j hj => rfl) tellHp_nil)) (tellFr_d rfl (DLe.refl _) (tellFr_d rfl (DLe.refl _) (tellFr_fn rfl trivial (tellFr_ptr rfl rfl (tellFr_row rfl rfl (tellFr_v rfl hwk trivial)))))), by show 24 - (k + 1) < 24 - k; omega⟩
    have dY : decide (Y ≥ 0) = true := decide_eq_true hY
    rw [dY, Bool.true_and] at hall
    by_cases hp : p X Y = true
    · rw [if_pos hp] at hall
      rw [hp] at cg
      refine .inl ⟨_, _, rfl, cl, rfl, ?_⟩
      repeat' (first | refine bsplit_of_true dX ?_ | refine bsplit_of_true dY ?_ | refine bsplit_true ?_)
      refine .inl ⟨_, _, rfl, cg, rfl, ?_⟩
      repeat' (first | refine bsplit_of_true dX ?_ | refine bsplit_of_true dY ?_ | refine bsplit_true ?_)
      refine ask_intro ⟨by show (S.length + 1) * 8 ≤ 140737488355328; omega, by show S.length + 1 ≤ 9223372036854775807; omega, fun j hj => by obtain rfl : j = 0 := (by omega); rfl⟩ ?_
      exact ⟨⟨(k + 1, S ++ [(k : Int)]), by show k + 1 ≤ 24; omega, by show (S ++ [(k : Int)]).length ≤ k + 1; omega, by rw [← hall]; simp⟩, le_of [(65, 65), (67, 12480)] rfl rfl rfl rfl (tellHp_box rfl rfl ⟨rfl, rfl, trivial⟩ (tellHp_row rfl rfl hsl.symm (fun j hj => upto_snoc S _ _ rfl j hj) tellHp_nil)) (tellFr_d rfl (DLe.refl _) (tellFr_d rfl (DLe.refl _) (tellFr_fn rfl trivial (tellFr_ptr rfl rfl (tellFr_row rfl rfl (tellFr_v rfl hwk trivial)))))), by show 24 - (k + 1) < 24 - k; omega⟩
    · rw [if_neg hp] at hall
      rw [Bool.eq_false_iff.2 hp] at cg
      refine .inl ⟨_, _, rfl, cl, rfl, ?_⟩
      repeat' (first | refine bsplit_of_true dX ?_ | refine bsplit_of_true dY ?_ | refine bsplit_true ?_)
      refine .inl ⟨_, _, rfl, cg, rfl, ?_⟩
      repeat' (first | refine bsplit_of_true dX ?_ | refine bsplit_of_true dY ?_ | refine bsplit_true ?_ | refine bsplit_false ?_)
      exact ⟨⟨(k + 1, S), by show k + 1 ≤ 24; omega, by show S.length ≤ k + 1; omega, hall⟩, le_of [(65, 65), (67, 67)] rfl rfl rfl rfl (tellHp_box rfl rfl ⟨rfl, rfl, trivial⟩ (tellHp_row rfl rfl rfl (fun j hj => rfl) tellHp_nil)) (tellFr_d rfl (DLe.refl _) (tellFr_d rfl (DLe.refl _) (tellFr_fn rfl trivial (tellFr_ptr rfl rfl (tellFr_row rfl rfl (tellFr_v rfl hwk trivial)))))), by show 24 - (k + 1) < 24 - k; omega⟩
  · have hk24 : k = 24 := by omega
    subst hk24
    have hS : S = V := by simpa [freeR] using hall
    refine bsplit_of_false (decide_eq_false (show ¬ (24 : Int) < (24 : Int) by omega)) ?_
    exact ⟨⟨rfl, ⟨rfl, rfl, (show S.length = V.length by rw [hS]), fun j hj => ⟨(show intsF S j = intsF V j by rw [hS]), rfl⟩⟩, trivial⟩, rfl⟩
def wboth (a b : List PageM) : List Int := freeR (shB a b fun x y => andI (orI x y) 2 != 0) 24 0
theorem c_impl_WritableBoth (a b : List PageM) (ha : a.length ≤ 1048576) (hb : b.length ≤ 1048576) (fa : pagesFault a 24 = 0) (fb : pagesFault b 24 = 0) : FnOK Try.prog 103 [.d (pages a), .d (pages b)] (.r (irsR (0, wboth a b))) := by
  have c1 := c_impl_shared a b ha hb fa fb 171 (fun x y => andI (orI x y) 2 != 0) c_impl_WritableBoth_1
  obtain ⟨V, hV⟩ : ∃ V, V = wboth a b := ⟨_, rfl⟩
  unfold wboth at hV
  rw [← hV] at c1
  unfold wboth
  rw [← hV]
  refine fn_of lv103 Try.func103 rfl rfl (by kernel_rfl) rfl ?_
  refine .inl ⟨_, _, rfl, c1, rfl, ?_⟩
  exact ⟨⟨rfl, ⟨rfl, rfl, rfl, fun j hj => ⟨rfl, rfl⟩⟩, trivial⟩, rfl⟩
theorem c_slices_IndexFunc_LaneIII (g : Nat) (a b d : Int) (p : LaneM → Bool) (hg : ∀ x, FnOK Try.prog g [laneLV x, .dptr [dI a], .dptr [dI b], .dptr [dI d]] (rb (p x))) (l : List LaneM) (hl : l.length ≤ 4611686018427387904) : FnOK Try.prog 177 [.d (lanes l), .fn g [.dptr [dI a], .dptr [dI b], .dptr [dI d]]] (ri (idxG p l 0)) := by
  refine fn_of lv177 Try.func177 rfl rfl (by kernel_rfl) rfl ?_
  refine ⟨{ i : Nat // i ≤ l.length ∧ idxG p l i = idxG p l 0 }, fun i => ⟨frL [(0, .d (lanes l)), (1, .fn g [.dptr [dI a], .dptr [dI b], .dptr [dI d]]), (7, di l.length), (8, di i.1)], hpL [], 0, 0⟩, fun i => l.length - i.1, ⟨0, by omega, rfl⟩,
    le_of [] rfl rfl rfl rfl trivial (tellFr_d rfl (DLe.refl _) (tellFr_fn rfl ⟨⟨DLe.refl _, trivial⟩, ⟨DLe.refl _, trivial⟩, ⟨DLe.refl _, trivial⟩, trivial⟩ (tellFr_v rfl rfl (tellFr_v rfl rfl trivial)))), ?_⟩
  rintro ⟨i, hi, hall⟩
  refine bsplit_intro (fun h => ?_) (fun h => ?_)
  · have h : i < l.length := by simp at h; exact h
    refine ask_intro ⟨by omega, by simp; omega, rfl⟩ ?_
    refine .inl ⟨_, _, rfl, hg (l.getD i ⟨0, 0, 0, 0, 0⟩), rfl, ?_⟩
    refine bsplit_intro (fun h2 => ?_) (fun h2 => ?_)
    · exact ⟨⟨congrArg (Value.int .i64) ((idxG_hit ⟨0, 0, 0, 0, 0⟩ h h2).symm.trans hall), trivial⟩, rfl⟩
    · exact ⟨⟨i + 1, by omega, (idxG_miss ⟨0, 0, 0, 0, 0⟩ h h2).symm.trans hall⟩, le_of [] rfl rfl rfl rfl trivial (tellFr_d rfl (DLe.refl _) (tellFr_fn rfl ⟨⟨DLe.refl _, trivial⟩, ⟨DLe.refl _, trivial⟩, ⟨DLe.refl _, trivial⟩, trivial⟩ (tellFr_v rfl rfl (tellFr_v rfl (congrArg (Value.int .i64) (wrap1 h hl)) trivial)))), by show l.length - (i + 1) < l.length - i; omega⟩
  · simp at h
    exact ⟨⟨congrArg (Value.int .i64) ((idxG_end h).symm.trans hall), trivial⟩, rfl⟩
def laneX (g a b : Int) (l : LaneM) : Bool := l.page == g && (l.frm == a && l.to == b)
theorem c_impl_mayShare_1 (x : LaneM) (g a b : Int) : FnOK Try.prog 173 [laneLV x, .dptr [dI g], .dptr [dI a], .dptr [dI b]] (rb (laneX g a b x)) := by
  obtain ⟨v, hv⟩ : ∃ v, v = laneX g a b x := ⟨_, rfl⟩
  rw [← hv]
  unfold laneX at hv
  refine fn_of lv173 Try.func173 rfl rfl (by kernel_rfl) rfl ?_
  repeat' (first | refine bsplit_true ?_ | refine bsplit_false ?_ | refine bsplit_intro (fun h => ?_) (fun h => ?_))
  all_goals refine ⟨⟨congrArg Value.bool ?_, trivial⟩, rfl⟩
  all_goals (subst hv; simp_all)
theorem c_slices_ContainsFunc_LaneIII (g a b : Int) (l : List LaneM) (hl : l.length ≤ 4611686018427387904) : FnOK Try.prog 114 [.d (lanes l), .fn 173 [.dptr [dI g], .dptr [dI a], .dptr [dI b]]] (rb (l.any (laneX g a b))) := by
  have c1 := c_slices_IndexFunc_LaneIII 173 g a b (laneX g a b) (fun x => c_impl_mayShare_1 x g a b) l hl
  refine fn_of lv114 Try.func114 rfl rfl (by kernel_rfl) rfl ?_
  refine .inl ⟨_, _, rfl, c1, rfl, ?_⟩
  exact ⟨⟨congrArg Value.bool (idxG_any l _), trivial⟩, rfl⟩
def leadW (l : List PageM) (g : Int) : Bool := andI (kindsT l g) 2 != 0
def mayB (x : PolM) (A B : List PageM) (a b g : Int) : Bool := if leadW B g = true then (!leadW A g && x.lns.any (laneX g b a)) else (leadW A g && x.lns.any (laneX g a b))
set_option maxHeartbeats 1600000 in
theorem c_impl_mayShare (x : PolM) (hs : x.small) (maps : List (List PageM)) (i j : Nat) (g : Int) (hi : i < maps.length) (hj : j < maps.length) (hmi : (maps.getD i []).length ≤ 1048576) (hmj : (maps.getD j []).length ≤ 1048576) :
    FnOK Try.prog 104 [polP x, .d (pgss maps), di i, di j, di g] (rb (mayB x (maps.getD i []) (maps.getD j []) i j g)) := by
  have hl := hs.lns
  have c1 := c_impl_kindsTo (maps.getD i []) hmi g
  have c2 := c_impl_kindsTo (maps.getD j []) hmj g
  have ca := c_slices_ContainsFunc_LaneIII g i j x.lns (by omega)
  have cb := c_slices_ContainsFunc_LaneIII g j i x.lns (by omega)
  obtain ⟨v, hv⟩ : ∃ v, v = mayB x (maps.getD i []) (maps.getD j []) i j g := ⟨_, rfl⟩
  rw [← hv]
  unfold mayB leadW at hv
  generalize kindsT (maps.getD i []) g = X at *
  generalize kindsT (maps.getD j []) g = Y at *
  by_cases hY : (andI Y 2 != 0) = true
  · rw [if_pos hY] at hv
    by_cases hX : (andI X 2 != 0) = true
    · have hXY : ((andI X 2 != 0) != (andI Y 2 != 0)) = false := by rw [hX, hY]; rfl
      rw [hX] at hv
      subst hv
      refine fn_of lv104 Try.func104 rfl rfl (by kernel_rfl) rfl ?_
      refine ask_intro ⟨by omega, by show (i : Int) < (maps.length : Int); omega, rfl⟩ ?_
      refine .inl ⟨_, _, rfl, c1, rfl, ?_⟩
      refine ask_intro ⟨by omega, by show (j : Int) < (maps.length : Int); omega, rfl⟩ ?_
      refine .inl ⟨_, _, rfl, c2, rfl, ?_⟩
      refine chk_intro (by kernel_rfl) ?_
      refine bsplit_of_true hY ?_
      repeat' (first | refine bsplit_of_false hXY ?_ | refine bsplit_false ?_)
      exact ⟨⟨rfl, trivial⟩, rfl⟩
    · have hX : (andI X 2 != 0) = false := Bool.eq_false_iff.2 hX
      have hXY : ((andI X 2 != 0) != (andI Y 2 != 0)) = true := by rw [hX, hY]; rfl
      rw [hX] at hv
      subst hv
      refine fn_of lv104 Try.func104 rfl rfl (by kernel_rfl) rfl ?_
      refine ask_intro ⟨by omega, by show (i : Int) < (maps.length : Int); omega, rfl⟩ ?_
      refine .inl ⟨_, _, rfl, c1, rfl, ?_⟩
      refine ask_intro ⟨by omega, by show (j : Int) < (maps.length : Int); omega, rfl⟩ ?_
      refine .inl ⟨_, _, rfl, c2, rfl, ?_⟩
      refine chk_intro (by kernel_rfl) ?_
      refine bsplit_of_true hY ?_
      repeat' (first | refine bsplit_of_true hXY ?_ | refine bsplit_true ?_)
      refine .inl ⟨_, _, rfl, cb, rfl, ?_⟩
      repeat' (first | refine bsplit_of_true hXY ?_ | refine bsplit_true ?_)
      exact ⟨⟨rfl, trivial⟩, rfl⟩
  · rw [if_neg hY] at hv
    have hY : (andI Y 2 != 0) = false := Bool.eq_false_iff.2 hY
    by_cases hX : (andI X 2 != 0) = true
    · have hXY : ((andI X 2 != 0) != (andI Y 2 != 0)) = true := by rw [hX, hY]; rfl
      rw [hX] at hv
      subst hv
      refine fn_of lv104 Try.func104 rfl rfl (by kernel_rfl) rfl ?_
      refine ask_intro ⟨by omega, by show (i : Int) < (maps.length : Int); omega, rfl⟩ ?_
      refine .inl ⟨_, _, rfl, c1, rfl, ?_⟩
      refine ask_intro ⟨by omega, by show (j : Int) < (maps.length : Int); omega, rfl⟩ ?_
      refine .inl ⟨_, _, rfl, c2, rfl, ?_⟩
      refine chk_intro (by kernel_rfl) ?_
      refine bsplit_of_false hY ?_
      repeat' (first | refine bsplit_of_true hXY ?_ | refine bsplit_true ?_)
      refine .inl ⟨_, _, rfl, ca, rfl, ?_⟩
      repeat' (first | refine bsplit_of_true hXY ?_ | refine bsplit_true ?_)
      exact ⟨⟨rfl, trivial⟩, rfl⟩
    · have hX : (andI X 2 != 0) = false := Bool.eq_false_iff.2 hX
      have hXY : ((andI X 2 != 0) != (andI Y 2 != 0)) = false := by rw [hX, hY]; rfl
      rw [hX] at hv
      subst hv
      refine fn_of lv104 Try.func104 rfl rfl (by kernel_rfl) rfl ?_
      refine ask_intro ⟨by omega, by show (i : Int) < (maps.length : Int); omega, rfl⟩ ?_
      refine .inl ⟨_, _, rfl, c1, rfl, ?_⟩
      refine ask_intro ⟨by omega, by show (j : Int) < (maps.length : Int); omega, rfl⟩ ?_
      refine .inl ⟨_, _, rfl, c2, rfl, ?_⟩
      refine chk_intro (by kernel_rfl) ?_
      refine bsplit_of_false hY ?_
      repeat' (first | refine bsplit_of_false hXY ?_ | refine bsplit_false ?_)
      exact ⟨⟨rfl, trivial⟩, rfl⟩
end Go.Proofs.Ytojaakpnpdnbhaa.L

/- MapsSafe of the program answers true where the maps are safe: a contract. -/
set_option linter.unusedVariables false
set_option linter.unusedSimpArgs false
set_option maxRecDepth 100000
namespace Go.Proofs.Ytojaakpnpdnbhaa.L
open Go.RowKit
structure SafeM (x : PolM) (maps : List (List PageM)) : Prop where
  pf : polFault x = 0
  len : maps.length = x.own.length
  few : maps.length ≤ 1048576
  sz : ∀ i, i < maps.length → (maps.getD i []).length ≤ 1048576
  pg : ∀ i, i < maps.length → pagesFault (maps.getD i []) 24 = 0
  own : ∀ i, i < maps.length → ∀ j, j < (maps.getD i []).length → ¬ ownerP x.own ((maps.getD i []).getD j ⟨0, 0⟩).to ≥ 0 ∨ ownerP x.own ((maps.getD i []).getD j ⟨0, 0⟩).to = (i : Int)
  sh : ∀ i, i < maps.length → ∀ k, k < i → ∀ q, q < (wboth (maps.getD k []) (maps.getD i [])).length → mayB x (maps.getD k []) (maps.getD i []) k i ((wboth (maps.getD k []) (maps.getD i [])).getD q 0) = true
theorem freeR_le : ∀ (p : Int → Bool) (n : Nat) (v : Int), (freeR p n v).length ≤ n := freeR_len
set_option maxHeartbeats 3200000 in
theorem c_impl_MapsSafe (x : PolM) (hs : x.small) (maps : List (List PageM)) (h : SafeM x maps) : FnOK Try.prog 40 [polLV x, .d (pgss maps)] (rb true) := by
  have c1 := c_impl_PolicyFault x hs
  rw [h.pf] at c1
  have hfew := h.few
  refine fn_of lv40 Try.func40 rfl rfl (by kernel_rfl) rfl ?_
  refine .inl ⟨_, _, rfl, c1, rfl, ?_⟩
  repeat' (first | refine bsplit_true ?_ | refine bsplit_false ?_)
  refine bsplit_of_false (by simp [h.len]) ?_
  refine ⟨{ i : Nat // i ≤ maps.length }, fun i => ⟨frL [(1, .d (pgss maps)), (2, .ptr 13 0), (24, .d (pgss maps)), (25, di maps.length), (26, di i.1)], hpL [(13, .box 38 [.d (owns x.own), .d (lanes x.lns), .d (bells x.bls), .d (slots x.pln)])], 96, 0⟩, fun i => maps.length - i.1, ⟨0, by omega⟩,
    le_of [(13, 0)] rfl rfl rfl rfl (tellHp_box rfl rfl ⟨DLe.refl _, DLe.refl _, DLe.refl _, DLe.refl _, trivial⟩ tellHp_nil) (tellFr_d rfl (DLe.refl _) (tellFr_ptr rfl rfl (tellFr_d rfl (DLe.refl _) (tellFr_v rfl rfl (tellFr_v rfl rfl trivial))))), ?_⟩
  rintro ⟨i, hi⟩
  by_cases hi2 : i < maps.length
  rotate_left
  · obtain rfl : i = maps.length := by omega
    refine bsplit_of_false (decide_eq_false (show ¬ (maps.length : Int) < (maps.length : Int) by omega)) ?_
    exact ⟨⟨rfl, trivial⟩, rfl⟩
  have hwi := wrap1 hi2 (by omega)
  obtain ⟨L, hL⟩ : ∃ L, L = maps.getD i [] := ⟨_, rfl⟩
  have hLs : L.length ≤ 1048576 := by rw [hL]; exact h.sz i hi2
  have hpg : pagesFault (maps.getD i []) 24 = 0 := h.pg i hi2
  have hown := h.own i hi2
  have hsh := h.sh i hi2
  have cp := c_impl_PagesFault (maps.getD i []) 24 (h.sz i hi2)
  rw [hpg] at cp
  refine bsplit_of_true (decide_eq_true (show (i : Int) < (maps.length : Int) by omega)) ?_
  refine ask_intro ⟨by omega, by show (i : Int) < (maps.length : Int); omega, rfl⟩ ?_
  refine .inl ⟨_, _, rfl, cp, rfl, ?_⟩
  refine bsplit_of_false (by decide) ?_
  refine ⟨{ j : Nat // j ≤ (maps.getD i []).length }, fun j => ⟨frL [(1, .d (pgss maps)), (2, .ptr 13 0), (5, di i), (6, .d (pages (maps.getD i []))), (24, .d (pgss maps)), (25, di maps.length), (26, di i), (34, .d (pages (maps.getD i []))), (35, di (maps.getD i []).length), (36, di j.1)], hpL [(13, .box 38 [.d (owns x.own), .d (lanes x.lns), .d (bells x.bls), .d (slots x.pln)])], 96, 0⟩, fun j => (maps.getD i []).length - j.1, ⟨0, by omega⟩,
    le_of [(13, 13)] rfl rfl rfl rfl (tellHp_box rfl rfl ⟨DLe.refl _, DLe.refl _, DLe.refl _, DLe.refl _, trivial⟩ tellHp_nil) (tellFr_d rfl (DLe.refl _) (tellFr_ptr rfl rfl (tellFr_v rfl rfl (tellFr_d rfl (DLe.refl _) (tellFr_d rfl (DLe.refl _) (tellFr_v rfl rfl (tellFr_v rfl rfl (tellFr_d rfl (DLe.refl _) (tellFr_v rfl rfl (tellFr_v rfl rfl trivial)))))))))), ?_⟩
  rintro ⟨j, hj⟩
  have hLs2 := h.sz i hi2
  by_cases hj2 : j < (maps.getD i []).length
  · have co := c_impl_owner x hs ((maps.getD i []).getD j ⟨0, 0⟩).to
    have ho := hown j hj2
    have hwj := wrap1 hj2 (by omega)
    obtain ⟨O, hO⟩ : ∃ O, O = ownerP x.own ((maps.getD i []).getD j ⟨0, 0⟩).to := ⟨_, rfl⟩
    rw [← hO] at co ho
    refine bsplit_of_true (decide_eq_true (show (j : Int) < ((maps.getD i []).length : Int) by omega)) ?_
    refine ask_intro ⟨by omega, by show (j : Int) < ((maps.getD i []).length : Int); omega, rfl⟩ ?_
    by_cases hO0 : O ≥ 0
    · have hOi : O = (i : Int) := by
        rcases ho with ho | ho
        · exact absurd hO0 ho
        · exact ho
      have d0 : decide (O ≥ 0) = true := decide_eq_true hO0
      have d1 : (O != (i : Int)) = false := by rw [hOi]; simp
      refine .inl ⟨_, _, rfl, co, rfl, ?_⟩
      repeat' (first | refine bsplit_of_true d0 ?_ | refine bsplit_true ?_)
      refine bsplit_of_false d1 ?_
      exact ⟨⟨j + 1, by omega⟩, le_of [(13, 13)] rfl rfl rfl rfl (tellHp_box rfl rfl ⟨DLe.refl _, DLe.refl _, DLe.refl _, DLe.refl _, trivial⟩ tellHp_nil) (tellFr_d rfl (DLe.refl _) (tellFr_ptr rfl rfl (tellFr_v rfl rfl (tellFr_d rfl (DLe.refl _) (tellFr_d rfl (DLe.refl _) (tellFr_v rfl rfl (tellFr_v rfl rfl (tellFr_d rfl (DLe.refl _) (tellFr_v rfl rfl (tellFr_v rfl (congrArg (Value.int .i64) hwj) trivial)))))))))), by show (maps.getD i []).length - (j + 1) < (maps.getD i []).length - j; omega⟩
    · have d0 : decide (O ≥ 0) = false := decide_eq_false hO0
      refine .inl ⟨_, _, rfl, co, rfl, ?_⟩
      repeat' (first | refine bsplit_of_false d0 ?_ | refine bsplit_false ?_)
      exact ⟨⟨j + 1, by omega⟩, le_of [(13, 13)] rfl rfl rfl rfl (tellHp_box rfl rfl ⟨DLe.refl _, DLe.refl _, DLe.refl _, DLe.refl _, trivial⟩ tellHp_nil) (tellFr_d rfl (DLe.refl _) (tellFr_ptr rfl rfl (tellFr_v rfl rfl (tellFr_d rfl (DLe.refl _) (tellFr_d rfl (DLe.refl _) (tellFr_v rfl rfl (tellFr_v rfl rfl (tellFr_d rfl (DLe.refl _) (tellFr_v rfl rfl (tellFr_v rfl (congrArg (Value.int .i64) hwj) trivial)))))))))), by show (maps.getD i []).length - (j + 1) < (maps.getD i []).length - j; omega⟩
  obtain rfl : j = (maps.getD i []).length := by omega
  refine bsplit_of_false (decide_eq_false (show ¬ ((maps.getD i []).length : Int) < ((maps.getD i []).length : Int) by omega)) ?_
  refine ⟨{ k : Nat // k ≤ i }, fun k => ⟨frL [(1, .d (pgss maps)), (2, .ptr 13 0), (5, di i), (6, .d (pages (maps.getD i []))), (24, .d (pgss maps)), (25, di maps.length), (26, di i), (51, di i), (52, di k.1)], hpL [(13, .box 38 [.d (owns x.own), .d (lanes x.lns), .d (bells x.bls), .d (slots x.pln)])], 96, 0⟩, fun k => i - k.1, ⟨0, by omega⟩,
    le_of [(13, 13)] rfl rfl rfl rfl (tellHp_box rfl rfl ⟨DLe.refl _, DLe.refl _, DLe.refl _, DLe.refl _, trivial⟩ tellHp_nil) (tellFr_d rfl (DLe.refl _) (tellFr_ptr rfl rfl (tellFr_v rfl rfl (tellFr_d rfl (DLe.refl _) (tellFr_d rfl (DLe.refl _) (tellFr_v rfl rfl (tellFr_v rfl rfl (tellFr_v rfl rfl (tellFr_v rfl rfl trivial))))))))), ?_⟩
  rintro ⟨k, hk⟩
  by_cases hk2 : k < i
  rotate_left
  · obtain rfl : k = i := by omega
    refine bsplit_of_false (decide_eq_false (show ¬ (k : Int) < (k : Int) by omega)) ?_
    exact ⟨⟨k + 1, by omega⟩, le_of [(13, 13)] rfl rfl rfl rfl (tellHp_box rfl rfl ⟨DLe.refl _, DLe.refl _, DLe.refl _, DLe.refl _, trivial⟩ tellHp_nil) (tellFr_d rfl (DLe.refl _) (tellFr_ptr rfl rfl (tellFr_d rfl (DLe.refl _) (tellFr_v rfl rfl (tellFr_v rfl (congrArg (Value.int .i64) hwi) trivial))))), by show maps.length - (k + 1) < maps.length - k; omega⟩
  have hwk := wrap1 hk2 (by omega)
  have hkm : k < maps.length := by omega
  have cw := c_impl_WritableBoth (maps.getD k []) (maps.getD i []) (h.sz k hkm) (h.sz i hi2) (h.pg k hkm) hpg
  have hq := hsh k hk2
  have hWl : (wboth (maps.getD k []) (maps.getD i [])).length ≤ 24 := freeR_len _ _ _
  have cm := fun g => c_impl_mayShare x hs maps k i g hkm hi2 (h.sz k hkm) (h.sz i hi2)
  generalize wboth (maps.getD k []) (maps.getD i []) = B at *
  refine bsplit_of_true (decide_eq_true (show (k : Int) < (i : Int) by omega)) ?_
  refine ask_intro ⟨by omega, by show (k : Int) < (maps.length : Int); omega, rfl⟩ ?_
  refine .inl ⟨_, _, rfl, cw, rfl, ?_⟩
  refine ⟨{ q : Nat // q ≤ B.length }, fun q => ⟨frL [(1, .d (pgss maps)), (2, .ptr 13 0), (5, di i), (6, .d (pages (maps.getD i []))), (10, di k), (24, .d (pgss maps)), (25, di maps.length), (26, di i), (51, di i), (52, di k), (61, .row 14), (62, di B.length), (63, di q.1)], hpL [(13, .box 38 [.d (owns x.own), .d (lanes x.lns), .d (bells x.bls), .d (slots x.pln)]), (14, rowE B)], 96, 0⟩, fun q => B.length - q.1, ⟨0, by omega⟩,
    le_of [(13, 13), (14, 8449)] rfl rfl rfl rfl (tellHp_box rfl rfl ⟨DLe.refl _, DLe.refl _, DLe.refl _, DLe.refl _, trivial⟩ (tellHp_row rfl rfl rfl (fun j hj => rfl) tellHp_nil)) (tellFr_d rfl (DLe.refl _) (tellFr_ptr rfl rfl (tellFr_v rfl rfl (tellFr_d rfl (DLe.refl _) (tellFr_v rfl rfl (tellFr_d rfl (DLe.refl _) (tellFr_v rfl rfl (tellFr_v rfl rfl (tellFr_v rfl rfl (tellFr_v rfl rfl (tellFr_row rfl rfl (tellFr_v rfl rfl (tellFr_v rfl rfl trivial))))))))))))), ?_⟩
  rintro ⟨q, hq0⟩
  by_cases hq2 : q < B.length
  · have cm2 := cm (B.getD q 0)
    rw [hq q hq2] at cm2
    have hwq := wrap1 hq2 (by omega)
    refine bsplit_of_true (decide_eq_true (show (q : Int) < (B.length : Int) by omega)) ?_
    refine ask_intro ⟨by omega, by show (q : Int) < (B.length : Int); omega⟩ ?_
    refine ask_intro (by show q < B.length; exact hq2) ?_
    refine .inl ⟨_, _, rfl, cm2, rfl, ?_⟩
    refine bsplit_of_false (by decide) ?_
    exact ⟨⟨q + 1, by omega⟩, le_of [(13, 13), (14, 14)] rfl rfl rfl rfl (tellHp_box rfl rfl ⟨DLe.refl _, DLe.refl _, DLe.refl _, DLe.refl _, trivial⟩ (tellHp_row rfl rfl rfl (fun j hj => rfl) tellHp_nil)) (tellFr_d rfl (DLe.refl _) (tellFr_ptr rfl rfl (tellFr_v rfl rfl (tellFr_d rfl (DLe.refl _) (tellFr_v rfl rfl (tellFr_d rfl (DLe.refl _) (tellFr_v rfl rfl (tellFr_v rfl rfl (tellFr_v rfl rfl (tellFr_v rfl rfl (tellFr_row rfl rfl (tellFr_v rfl rfl (tellFr_v rfl (congrArg (Value.int .i64) hwq) trivial))))))))))))), by show B.length - (q + 1) < B.length - q; omega⟩
  obtain rfl : q = B.length := by omega
  refine bsplit_of_false (decide_eq_false (show ¬ (B.length : Int) < (B.length : Int) by omega)) ?_
  exact ⟨⟨k + 1, by omega⟩, le_of [(13, 13)] rfl rfl rfl rfl (tellHp_box rfl rfl ⟨DLe.refl _, DLe.refl _, DLe.refl _, DLe.refl _, trivial⟩ tellHp_nil) (tellFr_d rfl (DLe.refl _) (tellFr_ptr rfl rfl (tellFr_v rfl rfl (tellFr_d rfl (DLe.refl _) (tellFr_d rfl (DLe.refl _) (tellFr_v rfl rfl (tellFr_v rfl rfl (tellFr_v rfl rfl (tellFr_v rfl (congrArg (Value.int .i64) hwk) trivial))))))))), by show i - (k + 1) < i - k; omega⟩
end Go.Proofs.Ytojaakpnpdnbhaa.L

/- Policies that are right: their owners, lanes, maps. Plain facts. -/
set_option linter.unusedVariables false
set_option linter.unusedSimpArgs false
set_option maxRecDepth 100000
namespace Go.Proofs.Ytojaakpnpdnbhaa.L
open Go.RowKit
theorem hasI_mem' {l : List Int} {v : Int} : hasI l v = true ↔ v ∈ l := by
  unfold hasI
  simp
theorem dupS_nodup : ∀ {l S : List Int}, dupS S l = false → l.Nodup ∧ ∀ a ∈ l, a ∉ S
  | [], S, _ => ⟨List.nodup_nil, fun a h => by simp at h⟩
  | x :: l, S, h => by
    simp only [dupS, Bool.or_eq_false_iff] at h
    obtain ⟨h1, h2⟩ := dupS_nodup h.2
    have hx : x ∉ S := fun hm => by rw [hasI_mem'.2 hm] at h; simp at h
    refine ⟨List.nodup_cons.2 ⟨fun hm => h2 x hm (by simp), h1⟩, fun a ha => ?_⟩
    rcases List.mem_cons.1 ha with e | e
    · rw [e]; exact hx
    · exact fun hm => h2 a e (List.mem_append_left _ hm)
theorem own_nodup {x : PolM} (h : polFault x = 0) : x.own.flatten.Nodup := by
  unfold polFault at h
  split at h
  · rename_i ho
    unfold ownBad at ho
    cases hq : inR (x.own.length : Int) 1 3 with
    | false => rw [hq] at ho; simp at ho
    | true =>
      rw [hq, Bool.not_true, cond_false] at ho
      split at ho
      · cases hd : dupS [] x.own.flatten with
        | true => rw [hd] at ho; simp at ho
        | false => exact (dupS_nodup hd).1
      · rename_i e; exact absurd ho e
  · rename_i ho; exact absurd h ho
theorem flat_apart : ∀ {l : List (List Int)}, l.flatten.Nodup → ∀ i j, i < j → j < l.length → ∀ a, a ∈ l.getD i [] → a ∉ l.getD j []
  | [], _, i, j, _, hj, _, _ => absurd hj (by simp)
  | r :: l, h, i, j, hij, hj, a, ha => by
    rw [List.flatten_cons, List.nodup_append] at h
    obtain ⟨j, rfl⟩ : ∃ k, j = k + 1 := ⟨j - 1, by omega⟩
    have hj' : j < l.length := by simpa using hj
    show a ∉ l.getD j []
    cases i with
    | zero =>
      have ha : a ∈ r := ha
      intro hm
      refine h.2.2 a ha a (List.mem_flatten.2 ⟨l.getD j [], ?_, hm⟩) rfl
      rw [getD_at [] hj']; exact List.getElem_mem _
    | succ i => exact flat_apart (l := l) h.2.1 i j (by omega) hj' a ha
theorem idxG_first {α : Type} (d : α) {l : List α} {p : α → Bool} {i : Nat} (hi : i < l.length) (hp : p (l.getD i d) = true) : ∀ k, k ≤ i → (∀ j, i - k ≤ j → j < i → p (l.getD j d) = false) → idxG p l (i - k) = i
  | 0, _, _ => by rw [Nat.sub_zero]; exact idxG_hit d hi hp
  | k + 1, hk, h => by
    have e : i - (k + 1) + 1 = i - k := by omega
    rw [idxG_miss d (i := i - (k + 1)) (by omega) (h _ (Nat.le_refl _) (by omega)), e]
    exact idxG_first d hi hp k (by omega) (fun j h1 h2 => h j (by omega) h2)
theorem owner_at {x : PolM} (h : polFault x = 0) (i : Nat) (hi : i < x.own.length) (v : Int) (hv : v ∈ x.own.getD i []) : ownerP x.own v = i := by
  have hn := own_nodup h
  have := idxG_first (p := fun r => hasI r v) ([] : List Int) hi (hasI_mem'.2 hv) i (Nat.le_refl _) (fun j _ hj => by
    have := flat_apart hn j i hj hi v
    cases hb : hasI (x.own.getD j []) v with
    | false => rfl
    | true => exact absurd hv (this (hasI_mem'.1 hb)))
  rw [Nat.sub_self] at this
  exact this
theorem idxG_none {α : Type} {l : List α} {p : α → Bool} (h : ∀ z ∈ l, p z = false) : idxG p l 0 = -1 := by
  unfold idxG
  have : (l.drop 0).any p = false := by
    rw [List.drop_zero, List.any_eq_false]
    intro z hz
    rw [h z hz]; simp
  rw [this]; rfl
theorem owner_neg {own : List (List Int)} {v : Int} (h : ∀ r ∈ own, v ∉ r) : ownerP own v = -1 := idxG_none fun z hz => by
  cases hb : hasI z v with
  | false => rfl
  | true => exact absurd (hasI_mem'.1 hb) (h z hz)
/-- what a right policy's lanes are -/
structure LaneR (x : PolM) (m : LaneM) : Prop where
  frm : 0 ≤ m.frm ∧ m.frm < (x.own.length : Int)
  to : 0 ≤ m.to ∧ m.to < (x.own.length : Int)
  ne : m.frm ≠ m.to
  page : 0 ≤ m.page ∧ m.page ≤ 23
  af : 5 ≤ m.af ∧ m.af ≤ 6
  at_ : 5 ≤ m.at_ ∧ m.at_ ≤ 6
  none : ownerP x.own m.page < 0
theorem bifz {b : Bool} {x : Int} {n : Int} (h : (bif b then n else x) = 0) (hn : n ≠ 0) : b = false ∧ x = 0 := by cases b <;> simp_all
theorem ifz {a x : Int} (h : (if a = 0 then x else a) = 0) : a = 0 ∧ x = 0 := by
  split at h
  · exact ⟨by assumption, h⟩
  · rename_i e; exact absurd h e
theorem laneBad_R {x : PolM} {m : LaneM} {ah : List LaneM} (h : laneBad x.own m ah = 0) : LaneR x m ∧ ∀ z ∈ ah, z.page ≠ m.page := by
  unfold laneBad at h
  obtain ⟨h1, h⟩ := ifz h
  obtain ⟨h2, h⟩ := bifz h (by decide)
  obtain ⟨h3, _⟩ := bifz h (by decide)
  unfold endsF at h1
  obtain ⟨h4, h1⟩ := bifz h1 (by decide)
  obtain ⟨h5, _⟩ := bifz h1 (by decide)
  simp only [Bool.or_eq_false_iff, Bool.not_eq_eq_eq_not, Bool.not_false] at h2 h4
  have a1 := inR_iff.1 (show inR m.frm 0 _ = true from h4.1)
  have a2 := inR_iff.1 (show inR m.to 0 _ = true from h4.2)
  have a3 := inR_iff.1 h2.1
  have a4 := inR_iff.1 h2.2.1
  have a5 := inR_iff.1 h2.2.2
  rw [Bool.or_eq_false_iff] at h3
  have a6 : ¬ ownerP x.own m.page ≥ 0 := of_decide_eq_false h3.1
  refine ⟨⟨by omega, by omega, fun e => by rw [e] at h5; simp at h5, by omega, by omega, by omega, by omega⟩, fun z hz e => ?_⟩
  have h7 := List.any_eq_false.1 h3.2 z hz
  unfold clash at h7
  rw [e] at h7
  simp at h7
theorem lanes_R {x : PolM} : ∀ {l ah : List LaneM}, lanesBad x.own ah l = 0 → (∀ m ∈ l, LaneR x m) ∧ (∀ m ∈ l, ∀ z ∈ ah, z.page ≠ m.page) ∧ ∀ m ∈ l, ∀ z ∈ l, m.page = z.page → m = z
  | [], _, _ => ⟨fun m hm => (by cases hm), fun m hm => (by cases hm), fun m hm => (by cases hm)⟩
  | a :: l, ah, h => by
    simp only [lanesBad] at h
    obtain ⟨h1, h2⟩ := ifz h
    obtain ⟨b1, b2⟩ := laneBad_R h1
    obtain ⟨c1, c2, c3⟩ := lanes_R h2
    refine ⟨fun m hm => ?_, fun m hm z hz => ?_, fun m hm z hz e => ?_⟩
    · rcases List.mem_cons.1 hm with rfl | hm
      · exact b1
      · exact c1 m hm
    · rcases List.mem_cons.1 hm with rfl | hm
      · exact b2 z hz
      · exact c2 m hm z (List.mem_append_left _ hz)
    · rcases List.mem_cons.1 hm with e1 | hm2
      · rcases List.mem_cons.1 hz with e2 | hz2
        · rw [e1, e2]
        · exact absurd e (c2 z hz2 m (List.mem_append_right _ (by rw [e1]; simp)))
      · rcases List.mem_cons.1 hz with e2 | hz2
        · exact absurd e.symm (c2 m hm2 z (List.mem_append_right _ (by rw [e2]; simp)))
        · exact c3 m hm2 z hz2 e
/-- what stands in a guest's map -/
def EntR (x : PolM) (g : Int) (e : PageM) : Prop := e = ⟨-1, 0⟩ ∨ (∃ p ∈ x.own.getD g.toNat [], e = ⟨p, 7⟩) ∨ ∃ m ∈ x.lns, (m.frm = g ∧ e = ⟨m.page, 3⟩) ∨ (m.to = g ∧ e = ⟨m.page, 1⟩)
theorem set_R {P : PageM → Prop} {S : List PageM} {i : Nat} {v : PageM} (h : ∀ e ∈ S, P e) (hv : P v) : ∀ e ∈ S.set i v, P e := fun e he => by
  rcases List.mem_or_eq_of_mem_set he with he | rfl
  · exact h e he
  · exact hv
theorem fold_R {x : PolM} {g : Int} : ∀ {l : List LaneM} {S : List PageM}, (∀ m ∈ l, m ∈ x.lns) → (∀ e ∈ S, EntR x g e) → ∀ e ∈ l.foldl (laneSet g) S, EntR x g e
  | [], S, _, h => h
  | m :: l, S, hl, h => by
    rw [List.foldl_cons]
    refine fold_R (l := l) (fun z hz => hl z (.tail _ hz)) ?_
    have hm := hl m (.head _)
    unfold laneSet
    split
    · rename_i e1
      refine set_R ?_ (.inr (.inr ⟨m, hm, .inr ⟨e1, rfl⟩⟩))
      split
      · rename_i e2
        exact set_R h (.inr (.inr ⟨m, hm, .inl ⟨e2, rfl⟩⟩))
      · exact h
    · split
      · rename_i e2
        exact set_R h (.inr (.inr ⟨m, hm, .inl ⟨e2, rfl⟩⟩))
      · exact h
theorem pages_R (x : PolM) (g : Int) : ∀ e ∈ pagesP x g, EntR x g e := by
  unfold pagesP
  refine fold_R (fun m hm => hm) fun e he => ?_
  unfold ownS at he
  rcases List.mem_append.1 he with he | he
  · obtain ⟨p, hp, rfl⟩ := List.mem_map.1 he
    exact .inr (.inl ⟨p, List.mem_of_mem_take hp, rfl⟩)
  · exact .inl (List.eq_of_mem_replicate he)
/-- a guest's own pages stand first -/
theorem fold_own {g : Int} : ∀ {l : List LaneM} {S : List PageM} (j : Nat), j < 5 → (∀ m ∈ l, 5 ≤ m.af ∧ 5 ≤ m.at_) → (l.foldl (laneSet g) S).getD j ⟨0, 0⟩ = S.getD j ⟨0, 0⟩
  | [], S, _, _, _ => rfl
  | m :: l, S, j, hj, hl => by
    rw [List.foldl_cons, fold_own (l := l) j hj (fun z hz => hl z (.tail _ hz))]
    have hm := hl m (.head _)
    have h1 : ∀ (T : List PageM) (k : Int) (v : PageM), 5 ≤ k → (T.set k.toNat v).getD j ⟨0, 0⟩ = T.getD j ⟨0, 0⟩ := fun T k v hk => by
      simp only [List.getD]
      rw [List.getElem?_set_ne (by omega)]
    unfold laneSet
    split
    · rw [h1 _ _ _ hm.2]
      split
      · rw [h1 _ _ _ hm.1]
      · rfl
    · split
      · rw [h1 _ _ _ hm.1]
      · rfl
theorem pages_own {x : PolM} {g : Int} (hl : ∀ m ∈ x.lns, 5 ≤ m.af ∧ 5 ≤ m.at_) (j : Nat) (hj : j < (x.own.getD g.toNat []).length) (h5 : (x.own.getD g.toNat []).length ≤ 5) : (pagesP x g).getD j ⟨0, 0⟩ = ⟨(x.own.getD g.toNat []).getD j 0, 7⟩ := by
  unfold pagesP
  rw [fold_own j (by omega) hl]
  unfold ownS
  generalize x.own.getD g.toNat [] = r at *
  simp only [List.getD]
  rw [List.getElem?_append_left (by rw [List.length_map, List.length_take]; omega), List.getElem?_map, List.getElem?_take, if_pos hj, List.getElem?_eq_getElem hj]
  rfl
theorem own_in {x : PolM} (h : polFault x = 0) (i : Nat) (hi : i < x.own.length) : 1 ≤ (x.own.getD i []).length ∧ (x.own.getD i []).length ≤ 5 ∧ ∀ p ∈ x.own.getD i [], 0 ≤ p ∧ p ≤ 23 := by
  unfold polFault at h
  obtain ⟨h, _⟩ := ifz h
  unfold ownBad at h
  obtain ⟨_, h⟩ := bifz h (by decide)
  obtain ⟨h, _⟩ := ifz h
  have hm : x.own.getD i [] ∈ x.own := by rw [getD_at _ hi]; exact List.getElem_mem hi
  have hr := firstNZ_all h (rowBad (x.own.getD i [])) (List.mem_map.2 ⟨_, hm, rfl⟩)
  unfold rowBad at hr
  obtain ⟨r1, hr⟩ := bifz hr (by decide)
  obtain ⟨r2, _⟩ := bifz hr (by decide)
  have r1 := inR_iff.1 (show inR ((x.own.getD i []).length : Int) 1 5 = true by simpa only [Bool.not_eq_false'] using r1)
  have r2 : (x.own.getD i []).all in23 = true := by simpa only [Bool.not_eq_false'] using r2
  exact ⟨by omega, by omega, fun p hp => inR_iff.1 (show inR p 0 23 = true from List.all_eq_true.1 r2 p hp)⟩
theorem pol_R {x : PolM} (h : polFault x = 0) : (∀ m ∈ x.lns, LaneR x m) ∧ ∀ m ∈ x.lns, ∀ z ∈ x.lns, m.page = z.page → m = z := by
  have := lanes_R (x := x) (ah := []) (l := x.lns) (pol_lanes h)
  exact ⟨this.1, this.2.2⟩
theorem firstNZ_nil : ∀ {l : List Int}, (∀ x ∈ l, x = 0) → firstNZ l = 0
  | [], _ => rfl
  | x :: l, h => by
    simp only [firstNZ]
    rw [if_pos (h x (.head _))]
    exact firstNZ_nil (l := l) (fun y hy => h y (.tail _ hy))
theorem ent_bad {x : PolM} (h : polFault x = 0) {g : Nat} (hg : g < x.own.length) {e : PageM} (he : EntR x g e) : pageBad 24 e = 0 := by
  have hp : ∀ p k : Int, 0 ≤ p → p ≤ 23 → 0 ≤ k → k ≤ 7 → pageBad 24 ⟨p, k⟩ = 0 := fun p k a1 a2 a3 a4 => by
    unfold pageBad
    have b1 : inR p (-1) (24 - 1) = true := inR_iff.2 ⟨by omega, by omega⟩
    have b2 : inR k 0 7 = true := inR_iff.2 ⟨a3, a4⟩
    have b3 : (p == -1) = false := by
      rw [beq_eq_false_iff_ne]; omega
    show (bif !inR p (-1) (24 - 1) || !inR k 0 7 then (3 : Int) else bif (p == -1) && (k != 0) then 1 else 0) = 0
    rw [b1, b2, b3]; rfl
  rcases he with rfl | ⟨p, hp1, rfl⟩ | ⟨m, hm, ⟨_, rfl⟩ | ⟨_, rfl⟩⟩
  · decide
  · have := (own_in h g hg).2.2 p (by simpa using hp1)
    exact hp p 7 this.1 this.2 (by decide) (by decide)
  · have := ((pol_R h).1 m hm).page
    exact hp _ 3 this.1 this.2 (by decide) (by decide)
  · have := ((pol_R h).1 m hm).page
    exact hp _ 1 this.1 this.2 (by decide) (by decide)
theorem maps_right {x : PolM} (h : polFault x = 0) {g : Nat} (hg : g < x.own.length) : pagesFault (pagesP x g) 24 = 0 := by
  have hl : (pagesP x g).length = 8 := pagesP_len (by rw [Int.toNat_natCast]; exact (own_in h g hg).2.1)
  unfold pagesFault
  have e1 : inR 24 1 24 = true := by decide
  have e2 : (((pagesP x g).length : Int) != 8) = false := by rw [hl]; rfl
  rw [e1, e2]
  show firstNZ _ = 0
  refine firstNZ_nil fun v hv => ?_
  obtain ⟨e, he, rfl⟩ := List.mem_map.1 hv
  exact ent_bad h hg (pages_R x g e he)
theorem freeR_mem {p : Int → Bool} : ∀ {n : Nat} {s v : Int}, v ∈ freeR p n s → s ≤ v ∧ v < s + n ∧ p v = true
  | 0, _, _, h => by simp [freeR] at h
  | n + 1, s, v, h => by
    simp only [freeR] at h
    split at h
    · rename_i hp
      rcases List.mem_cons.1 h with rfl | h
      · exact ⟨by omega, by omega, hp⟩
      · have := freeR_mem h
        exact ⟨by omega, by omega, this.2.2⟩
    · have := freeR_mem h
      exact ⟨by omega, by omega, this.2.2⟩
theorem kinds_ex {l : List PageM} {t : Int} (h : kindsT l t ≥ 0) : ∃ e ∈ l, e.to = t := by
  by_cases hx : ∃ e ∈ l, e.to = t
  · exact hx
  · have hno : ∀ (l : List PageM) (o : Int), (¬ ∃ e ∈ l, e.to = t) → l.foldl (kstep t) o = o := by
      intro l
      induction l with
      | nil => intro o _; rfl
      | cons a l ih =>
        intro o hn
        rw [List.foldl_cons]
        have : kstep t o a = o := by
          unfold kstep
          rw [if_neg (fun e => hn ⟨a, .head _, e⟩)]
        rw [this]
        exact ih o (fun ⟨e, he, h2⟩ => hn ⟨e, .tail _ he, h2⟩)
    unfold kindsT at h
    rw [hno l (-1) hx] at h
    omega
theorem kinds_all {l : List PageM} {t c : Int} (hc : c = 3 ∨ c = 1) (h0 : ∃ e ∈ l, e.to = t) (h : ∀ e ∈ l, e.to = t → e.kinds = c) : kindsT l t = c := by
  have step : ∀ o : Int, (o = -1 ∨ o = c) → orI (if 0 > o then 0 else o) c = c := by
    intro o ho
    rcases hc with rfl | rfl <;> rcases ho with rfl | rfl <;> decide
  have gen : ∀ (l : List PageM) (o : Int), (o = -1 ∨ o = c) → (∀ e ∈ l, e.to = t → e.kinds = c) → (l.foldl (kstep t) o = -1 ∨ l.foldl (kstep t) o = c) ∧ ((o = c ∨ ∃ e ∈ l, e.to = t) → l.foldl (kstep t) o = c) := by
    intro l
    induction l with
    | nil =>
      intro o ho _
      exact ⟨ho, fun h => by
        rcases h with h | ⟨e, he, _⟩
        · exact h
        · cases he⟩
    | cons a l ih =>
      intro o ho hl
      rw [List.foldl_cons]
      by_cases ha : a.to = t
      · have e1 : kstep t o a = c := by
          unfold kstep
          rw [if_pos ha, hl a (.head _) ha]
          exact step o ho
        rw [e1]
        have := ih c (.inr rfl) (fun e he => hl e (.tail _ he))
        exact ⟨this.1, fun _ => this.2 (.inl rfl)⟩
      · have e1 : kstep t o a = o := by
          unfold kstep
          rw [if_neg ha]
        rw [e1]
        have := ih o ho (fun e he => hl e (.tail _ he))
        refine ⟨this.1, fun h => this.2 ?_⟩
        rcases h with h | ⟨e, he, h⟩
        · exact .inl h
        · rcases List.mem_cons.1 he with rfl | he
          · exact absurd h ha
          · exact .inr ⟨e, he, h⟩
  exact (gen l (-1) (.inl rfl) h).2 (.inr h0)
end Go.Proofs.Ytojaakpnpdnbhaa.L

/- Images in the memory of a host: contracts. -/
set_option linter.unusedVariables false
set_option linter.unusedSimpArgs false
set_option maxRecDepth 100000
namespace Go.Proofs.Ytojaakpnpdnbhaa.L
open Go.RowKit
theorem set_intsF (S : List Int) (i : Nat) (v : Int) (hi : i < S.length) (j : Nat) : (if j = i then splice (intsF S j) 0 [.v (.int .i64 v)] else intsF S j) = intsF (S.set i v) j := by
  by_cases h : j = i
  · subst h
    rw [if_pos rfl]
    have e : (S.set j v).getD j 0 = v := by simp [List.getD, hi]
    simp only [intsF, e]
    rfl
  · rw [if_neg h]
    have e : (S.set i v).getD j 0 = S.getD j 0 := by simp [List.getD, List.getElem?_set_ne (Ne.symm h)]
    simp only [intsF, e]
def plI (own : List Int) (i : Nat) : Nat := (own.getD (i / 8) 0 * 8 + ((i % 8 : Nat) : Int)).toNat
def imgS (own img m : List Int) (i : Nat) : List Int := m.set (plI own i) (wrapW (img.getD i 0))
def imgM (own img m : List Int) (n : Nat) : List Int := (List.range n).foldl (imgS own img) m
theorem imgM_succ (own img m : List Int) (n : Nat) : imgM own img m (n + 1) = imgS own img (imgM own img m n) n := by simp [imgM, List.range_succ]
theorem imgM_len (own img m : List Int) : ∀ n, (imgM own img m n).length = m.length
  | 0 => rfl
  | n + 1 => by rw [imgM_succ, imgS, List.length_set, imgM_len own img m n]
def allM (own imgs : List (List Int)) : Nat → List Int
  | 0 => List.replicate 192 0
  | n + 1 => imgM (own.getD n []) (imgs.getD n []) (allM own imgs n) (imgs.getD n []).length
theorem allM_len (own imgs : List (List Int)) : ∀ n, (allM own imgs n).length = 192
  | 0 => by simp [allM]
  | n + 1 => by rw [allM, imgM_len, allM_len own imgs n]
theorem tdiv8 (i : Nat) (h : i ≤ 1048576) : IntKind.i64.wrap (Int.tdiv (i : Int) 8) = ((i / 8 : Nat) : Int) := by
  rw [Int.tdiv_eq_ediv_of_nonneg (by omega)]
  exact (wrap_i64 _ (by omega) (by omega)).trans (by omega)
theorem tmod8 (i : Nat) : Int.tmod (i : Int) 8 = ((i % 8 : Nat) : Int) := by
  rw [Int.tmod_eq_emod_of_nonneg (by omega)]
  omega
/-- where a word of an image goes -/
theorem img_place {own : List Int} {i : Nat} (hi : i < own.length * 8) (h5 : own.length ≤ 5) (hp : ∀ p ∈ own, 0 ≤ p ∧ p ≤ 23) :
    (0 ≤ IntKind.i64.wrap (Int.tdiv (i : Int) 8) ∧ IntKind.i64.wrap (Int.tdiv (i : Int) 8) < (own.length : Int)) ∧
    IntKind.i64.wrap (IntKind.i64.wrap (own.getD (IntKind.i64.wrap (Int.tdiv (i : Int) 8)).toNat 0 * 8) + Int.tmod (i : Int) 8) = ((plI own i : Nat) : Int) ∧ plI own i < 192 := by
  rw [tdiv8 i (by omega), tmod8]
  have hlt : i / 8 < own.length := by omega
  obtain ⟨h1, h2⟩ := hp (own.getD (i / 8) 0) (by rw [getD_at _ hlt]; exact List.getElem_mem _)
  unfold plI
  rw [Int.toNat_natCast]
  generalize own.getD (i / 8) 0 = p at *
  rw [wrap_i64 (p * 8) (by omega) (by omega), wrap_i64 _ (by omega) (by omega)]
  omega
def tooLong (own imgs : List (List Int)) (n : Nat) : Bool := (List.range n).any fun g => decide ((own.getD g []).length * 8 < (imgs.getD g []).length)
theorem tooLong_succ (own imgs : List (List Int)) (n : Nat) : tooLong own imgs (n + 1) = (tooLong own imgs n || decide ((own.getD n []).length * 8 < (imgs.getD n []).length)) := by simp [tooLong, List.range_succ]
theorem tooLong_le {own imgs : List (List Int)} : ∀ {n m : Nat}, n ≤ m → tooLong own imgs m = false → tooLong own imgs n = false := by
  intro n m h hm
  unfold tooLong at *
  rw [List.any_eq_false] at *
  intro g hg
  exact hm g (by simp at hg ⊢; omega)
theorem tooLong_at {own imgs : List (List Int)} {n g : Nat} (h : tooLong own imgs n = false) (hg : g < n) : (imgs.getD g []).length ≤ (own.getD g []).length * 8 := by
  unfold tooLong at h
  rw [List.any_eq_false] at h
  have := h g (by simpa using hg)
  simpa using this
theorem tooLong_hit {own imgs : List (List Int)} {n g : Nat} (hg : g < n) (h : (own.getD g []).length * 8 < (imgs.getD g []).length) : tooLong own imgs n = true := by
  unfold tooLong
  rw [List.any_eq_true]
  exact ⟨g, by simpa using hg, by simpa using h⟩
def imgCode (own imgs : List (List Int)) : Int := if imgs.length = own.length then (if tooLong own imgs own.length = true then 8 else 0) else 2
def loadImages (x : PolM) (imgs : List (List Int)) : Int × List Int := if polFault x = 0 then (if imgCode x.own imgs = 0 then (0, allM x.own imgs x.own.length) else (imgCode x.own imgs, [])) else (polFault x, [])
theorem loadImages_few (x : PolM) (imgs : List (List Int)) : (loadImages x imgs).2.length ≤ 1048576 := by
  unfold loadImages
  split
  · split
    · have := allM_len x.own imgs x.own.length
      simp only; omega
    · simp
  · simp
theorem pol_row {x : PolM} (h : polFault x = 0) (i : Nat) (hi : i < x.own.length) : (x.own.getD i []).length ≤ 5 ∧ ∀ p ∈ x.own.getD i [], 0 ≤ p ∧ p ≤ 23 := by
  have ha : askedG x i = 0 := by
    unfold askedG
    rw [if_pos h]
    have : guestB x.own.length i = true := inR_iff.2 ⟨by omega, by omega⟩
    rw [this]; rfl
  exact (own_row ha).2.2
set_option maxHeartbeats 1600000 in
theorem c_impl_LoadImages (x : PolM) (hs : x.small) (imgs : List (List Int)) (hI : imgs.length ≤ 1048576) (hI2 : ∀ i, i < imgs.length → (imgs.getD i []).length ≤ 1048576) : FnOK Try.prog 16 [polLV x, .d (owns imgs)] (.r (irsR (loadImages x imgs))) := by
  have c1 := c_impl_PolicyFault x hs
  have hrow := fun h : polFault x = 0 => pol_row h
  have hfew := fun h : polFault x = 0 => (pol_few h).2
  have hown := hs.own
  obtain ⟨r, hr⟩ : ∃ r, r = loadImages x imgs := ⟨_, rfl⟩
  rw [← hr]
  unfold loadImages at hr
  generalize polFault x = e at *
  refine fn_of lv16 Try.func16 rfl rfl (by kernel_rfl) rfl ?_
  refine .inl ⟨_, _, rfl, c1, rfl, ?_⟩
  refine bsplit_intro (fun h => ?_) (fun h => ?_)
  · rw [if_neg (by simpa using h)] at hr
    subst hr
    exact ⟨⟨rfl, ⟨rfl, rfl⟩, trivial⟩, rfl⟩
  have h : e = 0 := by simpa using h
  rw [if_pos h] at hr
  have hrow := hrow h
  have hfew := hfew h
  unfold imgCode at hr
  refine bsplit_intro (fun h2 => ?_) (fun h2 => ?_)
  · have h2 : ¬ imgs.length = x.own.length := by simp at h2; omega
    rw [if_neg h2] at hr
    have hr : r = (2, []) := hr
    subst hr
    exact ⟨⟨rfl, ⟨rfl, rfl⟩, trivial⟩, rfl⟩
  have h2 : imgs.length = x.own.length := by simp at h2; omega
  rw [if_pos h2] at hr
  refine ask_intro ⟨rfl, by decide, by decide, by decide⟩ ?_
  refine ⟨{ g : Nat // g ≤ x.own.length ∧ tooLong x.own imgs g = false }, fun g => ⟨frL [(2, .ptr 64 0), (4, .ptr 65 0), (6, .row 66), (26, .d (owns imgs)), (27, di imgs.length), (28, di g.1)], hpL [(64, .box 38 [.d (owns x.own), .d (lanes x.lns), .d (bells x.bls), .d (slots x.pln)]), (65, .box 32 [di 0, .d (.v (.slice none 0 0))]), (66, .row 2 1 192 (intsF (allM x.own imgs g.1)))], 97, 0⟩, fun g => x.own.length - g.1, ⟨0, by omega, rfl⟩,
    le_of [(64, 0), (65, 32), (66, 16384)] rfl rfl rfl rfl (tellHp_box rfl rfl ⟨DLe.refl _, DLe.refl _, DLe.refl _, DLe.refl _, trivial⟩ (tellHp_box rfl rfl ⟨rfl, rfl, trivial⟩ (tellHp_row rfl rfl rfl (fun j hj => ?_) tellHp_nil))) (tellFr_ptr rfl rfl (tellFr_ptr rfl rfl (tellFr_row rfl rfl (tellFr_d rfl (DLe.refl _) (tellFr_v rfl rfl (tellFr_v rfl rfl trivial)))))), ?_⟩
  · have hj : j < 192 := hj
    show [D.v (.int .i64 0)] = intsF (List.replicate 192 0) j
    have e : (List.replicate 192 (0 : Int)).getD j 0 = 0 := by simp only [List.getD, List.getElem?_replicate, if_pos hj, Option.getD_some]
    simp only [intsF, e]
  rintro ⟨g, hg, hlong⟩
  by_cases hg2 : g < x.own.length
  rotate_left
  · obtain rfl : g = x.own.length := by omega
    rw [hlong] at hr
    have hr : r = (0, allM x.own imgs x.own.length) := hr
    subst hr
    refine bsplit_of_false (decide_eq_false (show ¬ (x.own.length : Int) < (imgs.length : Int) by omega)) ?_
    exact ⟨⟨rfl, ⟨rfl, rfl, (allM_len _ _ _).symm, fun j hj => ⟨rfl, rfl⟩⟩, trivial⟩, rfl⟩
  obtain ⟨hr5, hrp⟩ := hrow g hg2
  have hwr := congrArg (Value.int .i64) (wrap1 hg2 (by omega))
  have hw8 : IntKind.i64.wrap (((x.own.getD g []).length : Int) * 8) = ((x.own.getD g []).length : Int) * 8 := wrap_i64 _ (by omega) (by omega)
  by_cases hlen : (x.own.getD g []).length * 8 < (imgs.getD g []).length
  · rw [if_pos (tooLong_hit hg2 hlen)] at hr
    have hr : r = (8, []) := hr
    subst hr
    refine bsplit_of_true (decide_eq_true (show (g : Int) < (imgs.length : Int) by omega)) ?_
    refine ask_intro ⟨by omega, by show (g : Int) < (imgs.length : Int); omega, rfl⟩ ?_
    refine ask_intro ⟨by omega, by show (g : Int) < (x.own.length : Int); omega, rfl⟩ ?_
    refine bsplit_of_true (decide_eq_true (show ((imgs.getD g []).length : Int) > IntKind.i64.wrap (((x.own.getD g []).length : Int) * 8) by rw [hw8]; omega)) ?_
    exact ⟨⟨rfl, ⟨rfl, rfl⟩, trivial⟩, rfl⟩
  have hlong2 : tooLong x.own imgs (g + 1) = false := by rw [tooLong_succ, hlong, decide_eq_false hlen]; rfl
  refine bsplit_of_true (decide_eq_true (show (g : Int) < (imgs.length : Int) by omega)) ?_
  refine ask_intro ⟨by omega, by show (g : Int) < (imgs.length : Int); omega, rfl⟩ ?_
  refine ask_intro ⟨by omega, by show (g : Int) < (x.own.length : Int); omega, rfl⟩ ?_
  refine bsplit_of_false (decide_eq_false (show ¬ ((imgs.getD g []).length : Int) > IntKind.i64.wrap (((x.own.getD g []).length : Int) * 8) by rw [hw8]; omega)) ?_
  refine ⟨{ i : Nat // i ≤ (imgs.getD g []).length }, fun i => ⟨frL [(2, .ptr 64 0), (4, .ptr 65 0), (6, .row 66), (26, .d (owns imgs)), (27, di imgs.length), (28, di g), (9, .d (ints (x.own.getD g []))), (45, .d (ints (imgs.getD g []))), (46, di (imgs.getD g []).length), (47, di i.1)], hpL [(64, .box 38 [.d (owns x.own), .d (lanes x.lns), .d (bells x.bls), .d (slots x.pln)]), (65, .box 32 [di 0, .d (.v (.slice none 0 0))]), (66, .row 2 1 192 (intsF (imgM (x.own.getD g []) (imgs.getD g []) (allM x.own imgs g) i.1)))], 97, 0⟩, fun i => (imgs.getD g []).length - i.1, ⟨0, by omega⟩,
    le_of [(64, 64), (65, 65), (66, 66)] rfl rfl rfl rfl (tellHp_box rfl rfl ⟨DLe.refl _, DLe.refl _, DLe.refl _, DLe.refl _, trivial⟩ (tellHp_box rfl rfl ⟨rfl, rfl, trivial⟩ (tellHp_row rfl rfl rfl (fun j hj => rfl) tellHp_nil))) (tellFr_ptr rfl rfl (tellFr_ptr rfl rfl (tellFr_row rfl rfl (tellFr_d rfl (DLe.refl _) (tellFr_v rfl rfl (tellFr_v rfl rfl (tellFr_d rfl (DLe.refl _) (tellFr_d rfl (DLe.refl _) (tellFr_v rfl rfl (tellFr_v rfl rfl trivial)))))))))), ?_⟩
  rintro ⟨i, hi⟩
  by_cases hi2 : i < (imgs.getD g []).length
  rotate_left
  · obtain rfl : i = (imgs.getD g []).length := by omega
    refine bsplit_of_false (decide_eq_false (show ¬ ((imgs.getD g []).length : Int) < ((imgs.getD g []).length : Int) by omega)) ?_
    exact ⟨⟨g + 1, by omega, hlong2⟩, le_of [(64, 64), (65, 65), (66, 66)] rfl rfl rfl rfl (tellHp_box rfl rfl ⟨DLe.refl _, DLe.refl _, DLe.refl _, DLe.refl _, trivial⟩ (tellHp_box rfl rfl ⟨rfl, rfl, trivial⟩ (tellHp_row rfl rfl rfl (fun j hj => rfl) tellHp_nil))) (tellFr_ptr rfl rfl (tellFr_ptr rfl rfl (tellFr_row rfl rfl (tellFr_d rfl (DLe.refl _) (tellFr_v rfl rfl (tellFr_v rfl hwr trivial)))))), by show x.own.length - (g + 1) < x.own.length - g; omega⟩
  obtain ⟨⟨a1, a2⟩, a3, a4⟩ := img_place (own := x.own.getD g []) (i := i) (by omega) hr5 hrp
  have hwi := congrArg (Value.int .i64) (wrap1 hi2 (by have := hI2 g (by omega); omega))
  have hml : (imgM (x.own.getD g []) (imgs.getD g []) (allM x.own imgs g) i).length = 192 := by rw [imgM_len, allM_len]
  have hst := set_intsF (imgM (x.own.getD g []) (imgs.getD g []) (allM x.own imgs g) i) (plI (x.own.getD g []) i) (wrapW ((imgs.getD g []).getD i 0)) (by omega)
  have hsu := imgM_succ (x.own.getD g []) (imgs.getD g []) (allM x.own imgs g) i
  have a5 : (IntKind.i64.wrap (IntKind.i64.wrap ((x.own.getD g []).getD (IntKind.i64.wrap (Int.tdiv (i : Int) 8)).toNat 0 * 8) + Int.tmod (i : Int) 8)).toNat = plI (x.own.getD g []) i := by rw [a3]; rfl
  refine bsplit_of_true (decide_eq_true (show (i : Int) < ((imgs.getD g []).length : Int) by omega)) ?_
  refine ask_intro ⟨by omega, by show (i : Int) < ((imgs.getD g []).length : Int); omega, rfl⟩ ?_
  refine ask_intro (by decide) ?_
  refine ask_intro ⟨a1, a2, rfl⟩ ?_
  refine ask_intro (by decide) ?_
  refine .inl ⟨_, _, rfl, c_impl_WrapWord ((imgs.getD g []).getD i 0), rfl, ?_⟩
  refine ask_intro ⟨by show 0 ≤ IntKind.i64.wrap (IntKind.i64.wrap ((x.own.getD g []).getD (IntKind.i64.wrap (Int.tdiv (i : Int) 8)).toNat 0 * 8) + Int.tmod (i : Int) 8); omega, by show IntKind.i64.wrap (IntKind.i64.wrap ((x.own.getD g []).getD (IntKind.i64.wrap (Int.tdiv (i : Int) 8)).toNat 0 * 8) + Int.tmod (i : Int) 8) < ((192 : Nat) : Int); omega⟩ ?_
  refine ask_intro (by show (IntKind.i64.wrap (IntKind.i64.wrap ((x.own.getD g []).getD (IntKind.i64.wrap (Int.tdiv (i : Int) 8)).toNat 0 * 8) + Int.tmod (i : Int) 8)).toNat < 192; omega) ?_
  refine chk_intro (by kernel_rfl) ?_
  refine ⟨⟨i + 1, by omega⟩, le_of [(64, 64), (65, 65), (66, 66)] rfl rfl rfl rfl (tellHp_box rfl rfl ⟨DLe.refl _, DLe.refl _, DLe.refl _, DLe.refl _, trivial⟩ (tellHp_box rfl rfl ⟨rfl, rfl, trivial⟩ (tellHp_row rfl rfl rfl (fun j hj => ?_) tellHp_nil))) (tellFr_ptr rfl rfl (tellFr_ptr rfl rfl (tellFr_row rfl rfl (tellFr_d rfl (DLe.refl _) (tellFr_v rfl rfl (tellFr_v rfl rfl (tellFr_d rfl (DLe.refl _) (tellFr_d rfl (DLe.refl _) (tellFr_v rfl rfl (tellFr_v rfl hwi trivial)))))))))), by show (imgs.getD g []).length - (i + 1) < (imgs.getD g []).length - i; omega⟩
  show (if j = (IntKind.i64.wrap (IntKind.i64.wrap ((x.own.getD g []).getD (IntKind.i64.wrap (Int.tdiv (i : Int) 8)).toNat 0 * 8) + Int.tmod (i : Int) 8)).toNat then splice (intsF (imgM (x.own.getD g []) (imgs.getD g []) (allM x.own imgs g) i) j) 0 [.v (.int .i64 (wrapW ((imgs.getD g []).getD i 0)))] else intsF (imgM (x.own.getD g []) (imgs.getD g []) (allM x.own imgs g) i) j) = intsF (imgM (x.own.getD g []) (imgs.getD g []) (allM x.own imgs g) (i + 1)) j
  rw [a5, hst j, hsu]
  rfl
end Go.Proofs.Ytojaakpnpdnbhaa.L

/- Built maps are safe; where an image's words lie. Plain facts. -/
set_option linter.unusedVariables false
set_option linter.unusedSimpArgs false
set_option maxRecDepth 100000
namespace Go.Proofs.Ytojaakpnpdnbhaa.L
open Go.RowKit
theorem lane_ent {x : PolM} (h : polFault x = 0) {g g' : Nat} (hg : g < x.own.length) (hg' : g' < x.own.length) (hne : g ≠ g') {v : Int} (hv : 0 ≤ v) {e e' : PageM} (he : e ∈ pagesP x g) (he' : e' ∈ pagesP x g') (ht : e.to = v) (ht' : e'.to = v) :
    ∃ m ∈ x.lns, m.page = v ∧ (m.frm = g ∨ m.to = g) := by
  rcases pages_R x g e he with rfl | ⟨p, hp, rfl⟩ | ⟨m, hm, ⟨h1, rfl⟩ | ⟨h1, rfl⟩⟩
  · exact absurd ht (by show ¬ (-1 : Int) = v; omega)
  · have hp : p ∈ x.own.getD g [] := by simpa using hp
    have ht : p = v := ht
    subst ht
    have o1 := owner_at h g hg p hp
    rcases pages_R x g' e' he' with rfl | ⟨p', hp', rfl⟩ | ⟨m, hm, ⟨h1, rfl⟩ | ⟨h1, rfl⟩⟩
    · exact absurd ht' (by show ¬ (-1 : Int) = p; omega)
    · have hp' : p' ∈ x.own.getD g' [] := by simpa using hp'
      have ht' : p' = p := ht'
      subst ht'
      have o2 := owner_at h g' hg' p' hp'
      exact absurd (o1.symm.trans o2) (by omega)
    · have o2 := ((pol_R h).1 m hm).none
      have ht' : m.page = p := ht'
      rw [ht', o1] at o2
      omega
    · have o2 := ((pol_R h).1 m hm).none
      have ht' : m.page = p := ht'
      rw [ht', o1] at o2
      omega
  · exact ⟨m, hm, ht, .inl h1⟩
  · exact ⟨m, hm, ht, .inr h1⟩
theorem kinds_lane {x : PolM} (h : polFault x = 0) {g : Nat} (hg : g < x.own.length) {v : Int} (hv : 0 ≤ v) {m : LaneM} (hm : m ∈ x.lns) (hp : m.page = v) (hex : ∃ e ∈ pagesP x g, e.to = v) :
    (m.frm = g → kindsT (pagesP x g) v = 3) ∧ (m.to = g → kindsT (pagesP x g) v = 1) := by
  have hr := (pol_R h).1 m hm
  have key : ∀ e ∈ pagesP x g, e.to = v → (m.frm = g ∧ e.kinds = 3) ∨ (m.to = g ∧ e.kinds = 1) := fun e he ht => by
    rcases pages_R x g e he with rfl | ⟨p, hp1, rfl⟩ | ⟨z, hz, ⟨h1, rfl⟩ | ⟨h1, rfl⟩⟩
    · exact absurd ht (by show ¬ (-1 : Int) = v; omega)
    · have hp1 : p ∈ x.own.getD g [] := by simpa using hp1
      have ht : p = v := ht
      have o1 := owner_at h g hg p hp1
      have o2 := hr.none
      rw [hp, ← ht, o1] at o2
      omega
    · have hz2 := (pol_R h).2 m hm z hz (hp.trans (show z.page = v from ht).symm)
      rw [hz2]; exact .inl ⟨h1, rfl⟩
    · have hz2 := (pol_R h).2 m hm z hz (hp.trans (show z.page = v from ht).symm)
      rw [hz2]; exact .inr ⟨h1, rfl⟩
  have hne := hr.ne
  refine ⟨fun e1 => kinds_all (.inl rfl) hex fun e he ht => ?_, fun e1 => kinds_all (.inr rfl) hex fun e he ht => ?_⟩
  · rcases key e he ht with ⟨_, k⟩ | ⟨k1, _⟩
    · exact k
    · exact absurd (e1.trans k1.symm) hne
  · rcases key e he ht with ⟨k1, _⟩ | ⟨_, k⟩
    · exact absurd (k1.trans e1.symm) hne
    · exact k
theorem share_ok {x : PolM} (h : polFault x = 0) {k i : Nat} (hk : k < x.own.length) (hi : i < x.own.length) (hne : k ≠ i) {v : Int} (hv : v ∈ wboth (pagesP x k) (pagesP x i)) : mayB x (pagesP x k) (pagesP x i) k i v = true := by
  obtain ⟨v0, _, hs⟩ := freeR_mem hv
  unfold shB at hs
  rw [Bool.and_eq_true, Bool.and_eq_true] at hs
  have xA := kinds_ex (of_decide_eq_true hs.1)
  have xB := kinds_ex (of_decide_eq_true hs.2.1)
  obtain ⟨e, he, ht⟩ := xA
  obtain ⟨e', he', ht'⟩ := xB
  obtain ⟨m, hm, hp, h1⟩ := lane_ent h hk hi hne v0 he he' ht ht'
  obtain ⟨m', hm', hp', h2⟩ := lane_ent h hi hk (Ne.symm hne) v0 he' he ht' ht
  obtain rfl : m = m' := (pol_R h).2 m hm m' hm' (hp.trans hp'.symm)
  have kA := kinds_lane h hk v0 hm hp ⟨e, he, ht⟩
  have kB := kinds_lane h hi v0 hm hp ⟨e', he', ht'⟩
  have any : ∀ a b : Int, m.frm = a → m.to = b → x.lns.any (laneX v a b) = true := fun a b ha hb => List.any_eq_true.2 ⟨m, hm, by
    unfold laneX
    rw [hp, ha, hb]
    simp⟩
  unfold mayB leadW
  rcases h1 with h1 | h1
  · rcases h2 with h2 | h2
    · exact absurd (h1.symm.trans h2) (by omega)
    · rw [kA.1 h1, kB.2 h2, any _ _ h1 h2, show (andI 1 2 != 0) = false by decide, show (andI 3 2 != 0) = true by decide]
      rfl
  · rcases h2 with h2 | h2
    · rw [kA.2 h1, kB.1 h2, any _ _ h2 h1, show (andI 1 2 != 0) = false by decide, show (andI 3 2 != 0) = true by decide]
      rfl
    · exact absurd (h1.symm.trans h2) (by omega)
theorem maps_safe {x : PolM} (h : polFault x = 0) : SafeM x (mapsL x) := by
  have hlen : (mapsL x).length = x.own.length := by simp [mapsL]
  have h3 := (pol_few h).2
  refine ⟨h, hlen, by omega, fun i hi => ?_, fun i hi => ?_, fun i hi j hj => ?_, fun i hi k hk q hq => ?_⟩
  · rw [mapsL_get x i (by omega), pagesP_len (by rw [Int.toNat_natCast]; exact (own_in h i (by omega)).2.1)]
    decide
  · rw [mapsL_get x i (by omega)]
    exact maps_right h (by omega)
  · have hi' : i < x.own.length := by omega
    rw [mapsL_get x i hi'] at hj ⊢
    have he : (pagesP x i).getD j ⟨0, 0⟩ ∈ pagesP x i := by rw [getD_at _ hj]; exact List.getElem_mem hj
    generalize (pagesP x i).getD j ⟨0, 0⟩ = e at *
    rcases pages_R x i e he with rfl | ⟨p, hp, rfl⟩ | ⟨m, hm, ⟨_, rfl⟩ | ⟨_, rfl⟩⟩
    · left
      show ¬ ownerP x.own (-1) ≥ 0
      rw [owner_neg fun r hr hm => ?_]
      · decide
      · obtain ⟨u, hu, rfl⟩ := List.getElem_of_mem hr
        have := (own_in h u hu).2.2 (-1) (by rw [getD_at _ hu]; exact hm)
        omega
    · right
      exact owner_at h i hi' p (by simpa using hp)
    · left
      have := ((pol_R h).1 m hm).none
      show ¬ ownerP x.own m.page ≥ 0
      omega
    · left
      have := ((pol_R h).1 m hm).none
      show ¬ ownerP x.own m.page ≥ 0
      omega
  · have hi' : i < x.own.length := by omega
    have hk' : k < x.own.length := by omega
    rw [mapsL_get x i hi', mapsL_get x k hk'] at hq ⊢
    exact share_ok h hk' hi' (by omega) (by rw [getD_at _ hq]; exact List.getElem_mem hq)
/-! ## words -/
theorem plI_eq {own : List Int} {i : Nat} (hi : i < own.length * 8) (hp : ∀ p ∈ own, 0 ≤ p ∧ p ≤ 23) : ∃ p ∈ own, own.getD (i / 8) 0 = p ∧ plI own i = p.toNat * 8 + i % 8 ∧ p.toNat * 8 + i % 8 < 192 := by
  have hlt : i / 8 < own.length := by omega
  have hm : own.getD (i / 8) 0 ∈ own := by rw [getD_at _ hlt]; exact List.getElem_mem _
  obtain ⟨h1, h2⟩ := hp _ hm
  refine ⟨_, hm, rfl, ?_, by omega⟩
  unfold plI
  generalize own.getD (i / 8) 0 = p at *
  omega
theorem nodup_get {l : List Int} (h : l.Nodup) {i j : Nat} (hi : i < l.length) (hj : j < l.length) (e : l.getD i 0 = l.getD j 0) : i = j := by
  rw [getD_at _ hi, getD_at _ hj] at e
  have hp := List.pairwise_iff_getElem.1 h
  rcases Nat.lt_trichotomy i j with h1 | h1 | h1
  · exact absurd e (hp i j hi hj h1)
  · exact h1
  · exact absurd e.symm (hp j i hj hi h1)
theorem plI_inj {own : List Int} (hn : own.Nodup) (hp : ∀ p ∈ own, 0 ≤ p ∧ p ≤ 23) {i j : Nat} (hi : i < own.length * 8) (hj : j < own.length * 8) (e : plI own i = plI own j) : i = j := by
  obtain ⟨p, hp1, e1, e2, _⟩ := plI_eq hi hp
  obtain ⟨q, hq1, f1, f2, _⟩ := plI_eq hj hp
  have a1 := hp p hp1
  have a2 := hp q hq1
  have hpq : p = q := by omega
  have h8 : i / 8 = j / 8 := nodup_get hn (by omega) (by omega) (by rw [e1, f1, hpq])
  omega
theorem imgM_other (own img m : List Int) (q : Nat) : ∀ k, (∀ i, i < k → plI own i ≠ q) → (imgM own img m k).getD q 0 = m.getD q 0
  | 0, _ => rfl
  | k + 1, h => by
    rw [imgM_succ, imgS]
    simp only [List.getD]
    rw [List.getElem?_set_ne (h k (by omega))]
    exact imgM_other own img m q k (fun i hi => h i (by omega))
theorem imgM_at (own img m : List Int) (q : Nat) (j : Nat) (hq : plI own j = q) (hb : q < m.length) : ∀ k, j < k → (∀ i, i < k → plI own i = q → i = j) → (imgM own img m k).getD q 0 = wrapW (img.getD j 0)
  | 0, h, _ => absurd h (Nat.not_lt_zero _)
  | k + 1, h, hi => by
    rw [imgM_succ, imgS]
    by_cases e : j = k
    · subst e
      rw [hq]
      simp only [List.getD]
      rw [List.getElem?_set_self (by rw [imgM_len]; exact hb)]
      rfl
    · simp only [List.getD]
      rw [List.getElem?_set_ne (fun hx => e (hi k (by omega) hx).symm)]
      exact imgM_at own img m q j hq hb k (by omega) (fun i h2 h3 => hi i (by omega) h3)
structure ImgR (x : PolM) (imgs : List (List Int)) : Prop where
  pf : polFault x = 0
  len : ∀ g, g < x.own.length → (imgs.getD g []).length ≤ (x.own.getD g []).length * 8
theorem row_nodup : ∀ {l : List (List Int)}, l.flatten.Nodup → ∀ {i : Nat}, i < l.length → (l.getD i []).Nodup
  | [], _, i, hi => absurd hi (by simp)
  | r :: l, h, i, hi => by
    rw [List.flatten_cons, List.nodup_append] at h
    cases i with
    | zero => exact h.1
    | succ i => exact row_nodup (l := l) h.2.1 (by simpa using hi)
theorem load_at {x : PolM} {imgs : List (List Int)} (h : ImgR x imgs) {g i : Nat} (hg : g < x.own.length) (hi : i < (imgs.getD g []).length) : ∀ n, g < n → n ≤ x.own.length → (allM x.own imgs n).getD (plI (x.own.getD g []) i) 0 = wrapW ((imgs.getD g []).getD i 0)
  | 0, h1, _ => absurd h1 (Nat.not_lt_zero _)
  | n + 1, h1, h2 => by
    have hn := own_nodup h.pf
    have hlg := h.len g hg
    have hin := own_in h.pf g hg
    obtain ⟨p, hp1, e1, e2, e3⟩ := plI_eq (own := x.own.getD g []) (i := i) (by omega) hin.2.2
    rw [allM]
    by_cases e : g = n
    · subst e
      refine imgM_at _ _ _ _ i rfl (by rw [allM_len]; omega) _ hi fun j hj hx => ?_
      exact plI_inj (row_nodup hn hg) hin.2.2 (by omega) (by omega) hx
    · have hnl : n < x.own.length := by omega
      have hin' := own_in h.pf n hnl
      rw [imgM_other]
      · exact load_at h hg hi n (by omega) (by omega)
      · intro j hj hx
        have hjl := h.len n hnl
        obtain ⟨q, hq1, f1, f2, f3⟩ := plI_eq (own := x.own.getD n []) (i := j) (by omega) hin'.2.2
        have a1 := hin.2.2 p hp1
        have a2 := hin'.2.2 q hq1
        have hpq : p = q := by omega
        rw [hpq] at hp1
        have o1 := owner_at h.pf g hg q hp1
        have o2 := owner_at h.pf n hnl q hq1
        omega
theorem load_free {x : PolM} {imgs : List (List Int)} (h : ImgR x imgs) {v : Int} (hv : 0 ≤ v) (hv2 : v ≤ 23) (ho : ownerP x.own v < 0) {k : Nat} (hk : k < 8) : ∀ n, n ≤ x.own.length → (allM x.own imgs n).getD (v * 8 + k).toNat 0 = 0
  | 0, _ => by
    rw [allM]
    simp only [List.getD]
    rw [List.getElem?_replicate, if_pos (by omega)]
    rfl
  | n + 1, h2 => by
    have hnl : n < x.own.length := by omega
    have hin' := own_in h.pf n hnl
    rw [allM, imgM_other]
    · exact load_free h hv hv2 ho hk n (by omega)
    · intro j hj hx
      have hjl := h.len n hnl
      obtain ⟨q, hq1, f1, f2, f3⟩ := plI_eq (own := x.own.getD n []) (i := j) (by omega) hin'.2.2
      have a2 := hin'.2.2 q hq1
      have hpq : q = v := by omega
      have o2 := owner_at h.pf n hnl q hq1
      rw [hpq] at o2
      omega
theorem imgM_isW (own img : List Int) : ∀ (k : Nat) (m : List Int), (∀ y ∈ m, isW y = true) → ∀ y ∈ imgM own img m k, isW y = true
  | 0, m, h => h
  | k + 1, m, h => by
    rw [imgM_succ, imgS]
    intro y hy
    rcases List.mem_or_eq_of_mem_set hy with hy | rfl
    · exact imgM_isW own img k m h y hy
    · exact inR_iff.2 (wrapW_le _)
theorem allM_isW (own imgs : List (List Int)) : ∀ n, ∀ y ∈ allM own imgs n, isW y = true
  | 0, y, hy => by
    rw [List.eq_of_mem_replicate hy]
    decide
  | n + 1, y, hy => imgM_isW _ _ _ _ (allM_isW own imgs n) y hy
theorem mem_right (own imgs : List (List Int)) (n : Nat) : memFault (allM own imgs n) = 0 := by
  unfold memFault
  rw [allM_len]
  have : (allM own imgs n).all isW = true := List.all_eq_true.2 (allM_isW own imgs n)
  rw [this]
  decide
theorem words_at (m : List Int) : ∀ (ps : List Int), (∀ p ∈ ps, 0 ≤ p ∧ (p + 1) * 8 ≤ m.length) → ∀ i, i < ps.length * 8 → (wordsL m ps).getD i 0 = m.getD ((ps.getD (i / 8) 0).toNat * 8 + i % 8) 0
  | [], _, i, hi => absurd hi (by simp)
  | p :: ps, h, i, hi => by
    have h1 := h p (.head _)
    have hpl := pageW_len m p h1.1 h1.2
    have hw : wordsL m (p :: ps) = pageW m p ++ wordsL m ps := rfl
    rw [hw]
    by_cases hi8 : i < 8
    · have e1 : i / 8 = 0 := by omega
      have e2 : i % 8 = i := by omega
      rw [e1, e2]
      simp only [List.getD]
      rw [List.getElem?_append_left (by omega)]
      show ((pageW m p)[i]?).getD 0 = (m[p.toNat * 8 + i]?).getD 0
      unfold pageW
      rw [List.getElem?_take, if_pos hi8, List.getElem?_drop]
      congr 2
      omega
    · have ih := words_at m ps (fun q hq => h q (.tail _ hq)) (i - 8) (by simp only [List.length_cons] at hi; omega)
      have e1 : i / 8 = (i - 8) / 8 + 1 := by omega
      have e2 : i % 8 = (i - 8) % 8 := by omega
      rw [e1, e2]
      show _ = m.getD ((ps.getD ((i - 8) / 8) 0).toNat * 8 + (i - 8) % 8) 0
      rw [← ih]
      simp only [List.getD]
      rw [List.getElem?_append_right (by omega), hpl]
end Go.Proofs.Ytojaakpnpdnbhaa.L

/- Choices out of a literal of so many numbers: contracts. -/
set_option linter.unusedVariables false
set_option maxRecDepth 100000
namespace Go.Proofs.Ytojaakpnpdnbhaa.L
open Go.RowKit
theorem pick2 (c : List Int) (hc : okCode c) (p : Int) (a b : Int) (hp : 0 ≤ p) (hp2 : p ≤ 549755813888) : MutOK Try.prog 120 [.ptr 0 0, .row 1] 2 [(0, srcBox c p), (1, .row 2 1 2 (fun i => ([[D.v (.int .i64 a)], [D.v (.int .i64 b)]] : List (List D)).getD i []))] (di (pk c p [a, b])) 2 [(0, srcBox c (p + 1)), (1, rowE [a, b])] := c_spec_l1Pick c hc p [a, b] hp hp2 (by simp)
theorem pick3 (c : List Int) (hc : okCode c) (p : Int) (a b d : Int) (hp : 0 ≤ p) (hp2 : p ≤ 549755813888) : MutOK Try.prog 120 [.ptr 0 0, .row 1] 2 [(0, srcBox c p), (1, .row 2 1 3 (fun i => ([[D.v (.int .i64 a)], [D.v (.int .i64 b)], [D.v (.int .i64 d)]] : List (List D)).getD i []))] (di (pk c p [a, b, d])) 2 [(0, srcBox c (p + 1)), (1, rowE [a, b, d])] := c_spec_l1Pick c hc p [a, b, d] hp hp2 (by simp)
theorem pick4 (c : List Int) (hc : okCode c) (p : Int) (a b d e : Int) (hp : 0 ≤ p) (hp2 : p ≤ 549755813888) : MutOK Try.prog 120 [.ptr 0 0, .row 1] 2 [(0, srcBox c p), (1, .row 2 1 4 (fun i => ([[D.v (.int .i64 a)], [D.v (.int .i64 b)], [D.v (.int .i64 d)], [D.v (.int .i64 e)]] : List (List D)).getD i []))] (di (pk c p [a, b, d, e])) 2 [(0, srcBox c (p + 1)), (1, rowE [a, b, d, e])] := c_spec_l1Pick c hc p [a, b, d, e] hp hp2 (by simp)
theorem pick5 (c : List Int) (hc : okCode c) (p : Int) (a b d e f : Int) (hp : 0 ≤ p) (hp2 : p ≤ 549755813888) : MutOK Try.prog 120 [.ptr 0 0, .row 1] 2 [(0, srcBox c p), (1, .row 2 1 5 (fun i => ([[D.v (.int .i64 a)], [D.v (.int .i64 b)], [D.v (.int .i64 d)], [D.v (.int .i64 e)], [D.v (.int .i64 f)]] : List (List D)).getD i []))] (di (pk c p [a, b, d, e, f])) 2 [(0, srcBox c (p + 1)), (1, rowE [a, b, d, e, f])] := c_spec_l1Pick c hc p [a, b, d, e, f] hp hp2 (by simp)
theorem pick6 (c : List Int) (hc : okCode c) (p : Int) (a b d e f g : Int) (hp : 0 ≤ p) (hp2 : p ≤ 549755813888) : MutOK Try.prog 120 [.ptr 0 0, .row 1] 2 [(0, srcBox c p), (1, .row 2 1 6 (fun i => ([[D.v (.int .i64 a)], [D.v (.int .i64 b)], [D.v (.int .i64 d)], [D.v (.int .i64 e)], [D.v (.int .i64 f)], [D.v (.int .i64 g)]] : List (List D)).getD i []))] (di (pk c p [a, b, d, e, f, g])) 2 [(0, srcBox c (p + 1)), (1, rowE [a, b, d, e, f, g])] := c_spec_l1Pick c hc p [a, b, d, e, f, g] hp hp2 (by simp)
theorem pick7 (c : List Int) (hc : okCode c) (p : Int) (a b d e f g h : Int) (hp : 0 ≤ p) (hp2 : p ≤ 549755813888) : MutOK Try.prog 120 [.ptr 0 0, .row 1] 2 [(0, srcBox c p), (1, .row 2 1 7 (fun i => ([[D.v (.int .i64 a)], [D.v (.int .i64 b)], [D.v (.int .i64 d)], [D.v (.int .i64 e)], [D.v (.int .i64 f)], [D.v (.int .i64 g)], [D.v (.int .i64 h)]] : List (List D)).getD i []))] (di (pk c p [a, b, d, e, f, g, h])) 2 [(0, srcBox c (p + 1)), (1, rowE [a, b, d, e, f, g, h])] := c_spec_l1Pick c hc p [a, b, d, e, f, g, h] hp hp2 (by simp)
end Go.Proofs.Ytojaakpnpdnbhaa.L

/- What the functions compute that tell where a place of a guest leads: contracts. -/
set_option linter.unusedVariables false
set_option linter.unusedSimpArgs false
set_option maxRecDepth 100000
namespace Go.Proofs.Ytojaakpnpdnbhaa.L
open Go.RowKit
theorem walkP_b {l : List PageM} {top : Int} (h : PgsOK l top) (ht : top ≤ 24) (at_ kind : Int) : walkP l at_ kind = -1 ∨ (0 ≤ walkP l at_ kind ∧ walkP l at_ kind < top * 8 ∧ ∃ p ∈ l, walkP l at_ kind < (p.to + 1) * 8) := by
  unfold walkP
  cases hin : inR at_ 0 63 with
  | false => exact .inl rfl
  | true =>
    cases hb : decide ((pageAt l at_).to < 0) || (andI (pageAt l at_).kinds kind == 0) with
    | true => exact .inl rfl
    | false =>
      have h0 := of_decide_eq_false (Bool.or_eq_false_iff.1 hb).1
      obtain ⟨w1, w2, w3⟩ := walk_get h ht hin h0
      have hd := div8 (inR_iff.1 hin).1 (inR_iff.1 hin).2
      have hm : Int.tmod at_ 8 < 8 := by rw [Int.tmod_eq_emod_of_nonneg (inR_iff.1 hin).1]; omega
      refine .inr ?_
      simp only [Bool.not_true, cond_false]
      rw [w1]
      refine ⟨w2, w3, pageAt l at_, ?_, by omega⟩
      unfold pageAt
      rw [hd.1, getD_at _ (by rw [h.len]; omega)]
      exact List.getElem_mem _
theorem idPages_ok : PgsOK idPages 8 := ⟨rfl, fun p hp => by
  simp only [idPages, List.mem_map, List.mem_range] at hp
  obtain ⟨i, hi, rfl⟩ := hp
  simp only
  omega⟩
theorem entryP_ok {w : Int} (h : 0 ≤ w) (h9 : w ≤ 4294967295) : -1 ≤ (entryP w).to ∧ (entryP w).to < 8 ∧ 0 ≤ (entryP w).kinds ∧ (entryP w).kinds ≤ 7 := by
  have h1 : 0 ≤ Int.tmod w 8 ∧ Int.tmod w 8 < 8 := by rw [Int.tmod_eq_emod_of_nonneg h]; omega
  have h2 : 0 ≤ Int.tdiv w 8 := Int.tdiv_nonneg h (by omega)
  have h2' : Int.tdiv w 8 ≤ w := Int.tdiv_le_self 8 h
  unfold entryP
  cases hb : (Int.tmod w 8 == 0) || decide (IntKind.i64.wrap (Int.tdiv w 8) ≥ 8) with
  | true => exact ⟨by simp, by simp, by simp, by simp⟩
  | false =>
    have h3 := of_decide_eq_false (Bool.or_eq_false_iff.1 hb).2
    simp only [cond_false]
    refine ⟨?_, by omega, by omega, by omega⟩
    rw [wrap_i64 _ (by omega) (by omega)]
    omega
theorem spaceM_ok {m : HartM} {l : List PageM} {mem : List Int} (ok : StepOK m l mem) (h : (spaceM m l mem).1 = 0) : PgsOK (spaceM m l mem).2 8 := by
  have ht := ok.table
  unfold spaceM at h ⊢
  split
  · exact idPages_ok
  · rename_i h0
    rw [if_neg h0] at h
    have hp := ok.page (i := (m.csr.getD 10 0 - 1).toNat) (by omega)
    generalize l.getD (m.csr.getD 10 0 - 1).toNat ⟨0, 0⟩ = P at *
    cases hb : (decide (P.to < 0) || (andI P.kinds 1 == 0)) || (m.csr.getD 10 0 == 8) with
    | true => rw [hb] at h; simp at h
    | false =>
      have hP : ¬ P.to < 0 := of_decide_eq_false (Bool.or_eq_false_iff.1 (Bool.or_eq_false_iff.1 hb).1).1
      simp only [cond_false]
      refine ⟨by rw [List.length_map]; exact pageW_len mem P.to (by omega) (by omega), fun p hp => ?_⟩
      obtain ⟨w, hw, rfl⟩ := List.mem_map.1 hp
      have hw2 := isW_iff.1 (ok.ram.word w (List.mem_of_mem_drop (List.mem_of_mem_take hw)))
      exact entryP_ok hw2.1 hw2.2
def placeM (m : HartM) (l : List PageM) (mem : List Int) (at_ kind : Int) : Int × Int :=
  if (spaceM m l mem).1 = 0 then
    (if walkP (spaceM m l mem).2 at_ kind < 0 then (kindC kind, 0) else
     if Int.tdiv (walkP (spaceM m l mem).2 at_ kind) 8 = 7 then (if kind = 4 then (9, 0) else (0, 1000 + Int.tmod (walkP (spaceM m l mem).2 at_ kind) 8)) else
     if walkP l (walkP (spaceM m l mem).2 at_ kind) kind < 0 then (kindC kind, 0) else (0, walkP l (walkP (spaceM m l mem).2 at_ kind) kind))
  else ((spaceM m l mem).1, 0)
theorem kindC_ne {k : Int} (h : kindOk k = true) : kindC k ≠ 0 := by
  have := kindC_ok k
  rw [h] at this
  intro h0
  rw [h0] at this
  simp at this
theorem kindOk_or {k : Int} (h : kindOk k = true) : k = 1 ∨ k = 2 ∨ k = 4 := by
  simpa [kindOk] using h
def placeOf (m : HartM) (l : List PageM) (mem : List Int) (at_ kind : Int) : Int × Int := if stepF m l mem = 0 then (bif !kindOk kind then (3, 0) else placeM m l mem at_ kind) else (stepF m l mem, 0)
end Go.Proofs.Ytojaakpnpdnbhaa.L

/- What the functions compute that read an instruction out of a word: contracts. -/
set_option linter.unusedVariables false
set_option linter.unusedSimpArgs false
set_option maxRecDepth 100000
namespace Go.Proofs.Ytojaakpnpdnbhaa.L
open Go.RowKit
structure InsM where
  op : Int
  d : Int
  a : Int
  imm : Int
  deriving DecidableEq
abbrev insLV (x : InsM) : LV := .agg [di x.op, di x.d, di x.a, di x.imm]
abbrev insV (x : InsM) : RV1 := .agg [.v (.int .i64 x.op), .v (.int .i64 x.d), .v (.int .i64 x.a), .v (.int .i64 x.imm)]
def insFault (x : InsM) : Int :=
  if ¬ ((1 ≤ x.op ∧ x.op ≤ 26) ∧ (0 ≤ x.d ∧ x.d ≤ 15) ∧ (0 ≤ x.a ∧ x.a ≤ 15) ∧ (0 ≤ x.imm ∧ x.imm ≤ 65535)) then 3 else
  if (x.op = 22 ∨ 23 ≤ x.op) ∧ x.d ≠ 0 ∨ (x.op = 13 ∨ x.op = 19 ∨ x.op = 21 ∨ 23 ≤ x.op) ∧ x.a ≠ 0 ∨ 23 ≤ x.op ∧ x.imm ≠ 0 ∨ x.op ≤ 11 ∧ x.imm > 15 ∨ (x.op = 21 ∨ x.op = 22) ∧ x.imm > 10 then 1 else 0
theorem c_spec_l2Bare (o : Int) (h1 : 1 ≤ o) (h26 : o ≤ 26) : FnOK Try.prog 210 [di o] (.tup [.one (.v (.bool (decide (o = 22 ∨ 23 ≤ o)))), .one (.v (.bool (decide (o = 13 ∨ o = 19 ∨ o = 21 ∨ 23 ≤ o)))), .one (.v (.bool (decide (23 ≤ o))))]) := by
  refine fn_of lv210 Try.func210 rfl rfl (by kernel_rfl) rfl ?_
  repeat' (first | refine bsplit_true ?_ | refine bsplit_false ?_ | refine bsplit_intro (fun h => ?_) (fun h => ?_))
  all_goals (simp only [beq_iff_eq, beq_eq_false_iff_ne, ne_eq] at *)
  all_goals refine ⟨⟨congrArg Value.bool ?_, congrArg Value.bool ?_, congrArg Value.bool ?_, trivial⟩, rfl⟩
  all_goals (symm; first | exact decide_eq_true (by omega) | exact decide_eq_false (by omega))
set_option maxHeartbeats 8000000 in
theorem c_spec_InsFault (x : InsM) : FnOK Try.prog 208 [insLV x] (ri (insFault x)) := by
  have w1 := c_spec_l1In x.op 1 26
  have w2 := c_spec_l1In x.d 0 15
  have w3 := c_spec_l1In x.a 0 15
  have w4 := c_spec_l1In x.imm 0 65535
  by_cases hop : 1 ≤ x.op ∧ x.op ≤ 26
  rotate_left
  · refine fn_of lv208 Try.func208 rfl rfl (by kernel_rfl) rfl ?_
    repeat' (first | refine bsplit_true ?_ | refine bsplit_false ?_ | refine .inl ⟨_, _, rfl, w1, rfl, ?_⟩ | refine .inl ⟨_, _, rfl, w2, rfl, ?_⟩ | refine .inl ⟨_, _, rfl, w3, rfl, ?_⟩ | refine .inl ⟨_, _, rfl, w4, rfl, ?_⟩ | refine bsplit_of_true (show (!(inR x.op 1 26)) = true by simp [inR]; omega) ?_)
    all_goals refine ⟨⟨congrArg (Value.int .i64) ?_, trivial⟩, rfl⟩
    all_goals (unfold insFault; repeat' split)
    all_goals (first | rfl | omega)
  have w5 := c_spec_l2Bare x.op hop.1 hop.2
  have e1 : ∀ b, decide (x.op = 22 ∨ 23 ≤ x.op) = b → (b = true ↔ (x.op = 22 ∨ 23 ≤ x.op)) := fun b h => by rw [← h]; simp
  have e2 : ∀ b, decide (x.op = 13 ∨ x.op = 19 ∨ x.op = 21 ∨ 23 ≤ x.op) = b → (b = true ↔ (x.op = 13 ∨ x.op = 19 ∨ x.op = 21 ∨ 23 ≤ x.op)) := fun b h => by rw [← h]; simp
  have e3 : ∀ b, decide (23 ≤ x.op) = b → (b = true ↔ 23 ≤ x.op) := fun b h => by rw [← h]; simp
  generalize hb1 : decide (x.op = 22 ∨ 23 ≤ x.op) = b1 at w5
  generalize hb2 : decide (x.op = 13 ∨ x.op = 19 ∨ x.op = 21 ∨ 23 ≤ x.op) = b2 at w5
  generalize hb3 : decide (23 ≤ x.op) = b3 at w5
  replace e1 := e1 b1 hb1
  replace e2 := e2 b2 hb2
  replace e3 := e3 b3 hb3
  clear hb1 hb2 hb3
  refine fn_of lv208 Try.func208 rfl rfl (by kernel_rfl) rfl ?_
  repeat' (first | refine bsplit_true ?_ | refine bsplit_false ?_ | refine .inl ⟨_, _, rfl, w1, rfl, ?_⟩ | refine .inl ⟨_, _, rfl, w2, rfl, ?_⟩ | refine .inl ⟨_, _, rfl, w3, rfl, ?_⟩ | refine .inl ⟨_, _, rfl, w4, rfl, ?_⟩ | refine .inl ⟨_, _, rfl, w5, rfl, ?_⟩ | refine bsplit_intro (fun h => ?_) (fun h => ?_))
  all_goals refine ⟨⟨congrArg (Value.int .i64) ?_, trivial⟩, rfl⟩
  all_goals (simp only [Bool.not_eq_eq_eq_not, Bool.not_true, Bool.not_false, inR, Bool.and_eq_true, Bool.and_eq_false_iff, bne_iff_ne, bne_eq_false_iff_eq, decide_eq_true_eq, decide_eq_false_iff_not, beq_iff_eq, beq_eq_false_iff_ne, ne_eq] at *)
  all_goals (clear w1 w2 w3 w4 w5)
  all_goals (try subst b1; try subst b2; try subst b3)
  all_goals (try simp only [true_iff, false_iff, Bool.false_eq_true, reduceCtorEq] at *)
  all_goals (unfold insFault; repeat' split)
  all_goals (first | rfl | omega)
abbrev shrI (a : Int) (n : Nat) : Int := a.fdiv (2 ^ (min n 64))
def insOf (w : Int) : InsM := ⟨shrI w 24, andI (shrI w 20) 15, andI (shrI w 16) 15, andI w 65535⟩
def decIns (w : Int) : Int × InsM := if insFault (insOf w) = 0 then (0, insOf w) else (5, ⟨0, 0, 0, 0⟩)
abbrev insR (p : Int × InsM) : RV1 := .agg [.v (.int .i64 p.1), .v (.int .i64 p.2.op), .v (.int .i64 p.2.d), .v (.int .i64 p.2.a), .v (.int .i64 p.2.imm)]
abbrev insRLV (p : Int × InsM) : LV := .agg [di p.1, di p.2.op, di p.2.d, di p.2.a, di p.2.imm]
theorem placeM_run {m : HartM} {l : List PageM} {mem : List Int} (ok : StepOK m l mem) (at_ : Int) (h : (placeM m l mem at_ 4).1 = 0) : 0 ≤ (placeM m l mem at_ 4).2 ∧ (placeM m l mem at_ 4).2 < mem.length := by
  have hc : kindC 4 ≠ 0 := by decide
  unfold placeM at h ⊢
  split
  · rename_i h0
    rw [if_pos h0] at h
    split
    · rename_i h1; rw [if_pos h1] at h; exact absurd h hc
    · rename_i h1
      rw [if_neg h1] at h
      split
      · rename_i h2; rw [if_pos h2, if_pos rfl] at h; simp at h
      · rename_i h2
        rw [if_neg h2] at h
        split
        · rename_i h3; rw [if_pos h3] at h; exact absurd h hc
        · rename_i h3
          rcases walkP_b ok.pgs (by omega) (walkP (spaceM m l mem).2 at_ 4) 4 with hw | ⟨hw, _, p, hp, hw2⟩
          · omega
          · exact ⟨hw, by have := ok.top p hp; show walkP l _ 4 < (mem.length : Int); omega⟩
  · rename_i h0
    rw [if_neg h0] at h
    exact absurd h h0
def nextIns (m : HartM) (l : List PageM) (mem : List Int) : Int × InsM :=
  if (placeOf m l mem m.pc 4).1 = 0 then decIns (mem.getD (placeOf m l mem m.pc 4).2.toNat 0) else ((placeOf m l mem m.pc 4).1, ⟨0, 0, 0, 0⟩)
theorem placeOf_run {m : HartM} {l : List PageM} {mem : List Int} (at_ : Int) (h : (placeOf m l mem at_ 4).1 = 0) : stepF m l mem = 0 ∧ placeOf m l mem at_ 4 = placeM m l mem at_ 4 ∧ 0 ≤ (placeOf m l mem at_ 4).2 ∧ (placeOf m l mem at_ 4).2 < mem.length ∧ isW (mem.getD (placeOf m l mem at_ 4).2.toNat 0) = true := by
  by_cases h0 : stepF m l mem = 0
  · have e : placeOf m l mem at_ 4 = placeM m l mem at_ 4 := by unfold placeOf; rw [if_pos h0]; rfl
    rw [e] at h
    have h2 := placeM_run (stepF_ok h0) at_ h
    rw [e]
    refine ⟨h0, rfl, h2.1, h2.2, ?_⟩
    rw [getD_at _ (by omega)]
    exact (stepF_ok h0).ram.word _ (List.getElem_mem _)
  · unfold placeOf at h
    rw [if_neg h0] at h
    exact absurd h h0
end Go.Proofs.Ytojaakpnpdnbhaa.L

/- What the functions compute that draw instructions and images: contracts. -/
set_option linter.unusedVariables false
set_option linter.unusedSimpArgs false
set_option maxRecDepth 100000
namespace Go.Proofs.Ytojaakpnpdnbhaa.L
open Go.RowKit
set_option maxHeartbeats 4000000 in
theorem c_spec_l2Ins (c : List Int) (hc : okCode c) (p : Int) (hp : 0 ≤ p) (hp2 : p ≤ 1099511627) : MutS Try.prog 209 [.ptr 0 0] 1 [(0, srcBox c p)]
    (fun lv m' hp1 => ∃ (x : InsM) (q : Int), p ≤ q ∧ q ≤ p + 8 ∧ lv = insLV x ∧ m' = 1 ∧ hp1 = [(0, srcBox c q)]) := by
  have h26 := nx_in (c := c) hc (p := p) (n := 26) (by omega) (by omega)
  have hw : IntKind.i64.wrap (1 + nx c p 26) = 1 + nx c p 26 := wrap_i64 _ (by omega) (by omega)
  have cb := c_spec_l2Bare (IntKind.i64.wrap (1 + nx c p 26)) (by omega) (by omega)
  refine mutS_fn_of lv209 Try.func209 rfl rfl (by kernel_rfl) rfl ?_
  repeat' (first | refine bsplit_true ?_ | refine bsplit_false ?_ | (refine .inr ⟨rfl, use_mut ⟨?_, ?_, ?_, ?_, ?_, ?_, ?_, ?_, ?_, ?_, ?_⟩⟩; rotate_left 6; exact rfl; exact rfl; (first | (refine c_spec_l1Next c hc _ _ ?_ ?_ <;> (first | omega | (dsimp only; omega))) | (refine pick3 c hc _ _ _ _ ?_ ?_ <;> (first | omega | (dsimp only; omega))) | (refine pick4 c hc _ _ _ _ _ ?_ ?_ <;> (first | omega | (dsimp only; omega))) | (refine pick2 c hc _ _ _ ?_ ?_ <;> (first | omega | (dsimp only; omega))) | (refine pick6 c hc _ _ _ _ _ _ _ ?_ ?_ <;> (first | omega | (dsimp only; omega))) | (refine pick7 c hc _ _ _ _ _ _ _ _ ?_ ?_ <;> (first | omega | (dsimp only; omega))) | (refine pick5 c hc _ _ _ _ _ _ ?_ ?_ <;> (first | omega | (dsimp only; omega))) | (refine c_spec_l1Chance c hc _ _ ?_ ?_ <;> (first | omega | (dsimp only; omega))) | (refine c_spec_l1Word c hc _ ?_ ?_ <;> (first | omega | (dsimp only; omega)))); rfl))
  refine .inl ⟨_, _, rfl, cb, rfl, ?_⟩
  repeat' (first | refine bsplit_true ?_ | refine bsplit_false ?_ | refine ask_intro (by decide) ?_ | refine bsplit_intro (fun h => ?_) (fun h => ?_))
  all_goals exact ⟨_, _, _, [], ⟨⟨_, _, _, _⟩, p + 1 + 1 + 1 + 1 + 1 + 1 + 1, by omega, by omega, rfl, rfl, rfl⟩, chk_intro (by kernel_rfl) ⟨⟨rfl, rfl, rfl, rfl, trivial⟩, tellHp_box rfl rfl ⟨DLe.refl _, rfl, trivial⟩ tellHp_nil⟩⟩
end Go.Proofs.Ytojaakpnpdnbhaa.L

/- What the functions compute that draw an image's instructions: contracts. -/
set_option linter.unusedVariables false
set_option linter.unusedSimpArgs false
set_option maxRecDepth 100000
namespace Go.Proofs.Ytojaakpnpdnbhaa.L
open Go.RowKit
abbrev l7InsP (c : List Int) (p : Int) (lv : LV) (m' : Nat) (hp1 : List (Nat × Ent)) : Prop := ∃ (x : InsM) (q : Int), p ≤ q ∧ q ≤ p + 10 ∧ lv = insLV x ∧ m' = 1 ∧ hp1 = [(0, srcBox c q)]
theorem c_l7_0 (c : List Int) (hc : okCode c) (p : Int) (hp : 0 ≤ p) (hp2 : p ≤ 109951162) (hv : nx c (p + 1) 14 = 0) : MutS Try.prog 203 [.ptr 0 0] 1 [(0, srcBox c p)] (l7InsP c p) := by
  have c3 := c_spec_l1Next c hc p 3 (by omega) (by omega)
  have c14 := c_spec_l1Next c hc (p + 1) 14 (by omega) (by omega)
  rw [hv] at c14
  refine mutS_fn_of lv203 Try.func203 rfl rfl (by kernel_rfl) rfl ?_
  refine .inr ⟨rfl, use_mut ⟨_, _, _, _, _, _, rfl, rfl, c3, rfl, ?_⟩⟩
  refine .inr ⟨rfl, use_mut ⟨_, _, _, _, _, _, rfl, rfl, c14, rfl, ?_⟩⟩
  repeat' (first | refine bsplit_true ?_ | refine bsplit_false ?_ | (refine .inr ⟨rfl, use_mut ⟨?_, ?_, ?_, ?_, ?_, ?_, ?_, ?_, ?_, ?_, ?_⟩⟩; rotate_left 6; exact rfl; exact rfl; (first | (refine c_spec_l1Next c hc _ _ ?_ ?_ <;> (first | omega | (dsimp only; omega))) | (refine pick3 c hc _ _ _ _ ?_ ?_ <;> (first | omega | (dsimp only; omega))) | (refine pick4 c hc _ _ _ _ _ ?_ ?_ <;> (first | omega | (dsimp only; omega))) | (refine pick2 c hc _ _ _ ?_ ?_ <;> (first | omega | (dsimp only; omega))) | (refine pick6 c hc _ _ _ _ _ _ _ ?_ ?_ <;> (first | omega | (dsimp only; omega))) | (refine pick7 c hc _ _ _ _ _ _ _ _ ?_ ?_ <;> (first | omega | (dsimp only; omega))) | (refine pick5 c hc _ _ _ _ _ _ ?_ ?_ <;> (first | omega | (dsimp only; omega))) | (refine c_spec_l1Chance c hc _ _ ?_ ?_ <;> (first | omega | (dsimp only; omega))) | (refine c_spec_l1Word c hc _ ?_ ?_ <;> (first | omega | (dsimp only; omega)))); rfl))
  exact ⟨_, _, _, [], ⟨⟨_, _, _, _⟩, p + 1 + 1 + 1 + 1 + 1 + 1 + 1, by omega, by omega, rfl, rfl, rfl⟩, chk_intro (by kernel_rfl) ⟨⟨rfl, rfl, rfl, rfl, trivial⟩, tellHp_box rfl rfl ⟨DLe.refl _, rfl, trivial⟩ tellHp_nil⟩⟩
theorem c_l7_1 (c : List Int) (hc : okCode c) (p : Int) (hp : 0 ≤ p) (hp2 : p ≤ 109951162) (hv : nx c (p + 1) 14 = 1) : MutS Try.prog 203 [.ptr 0 0] 1 [(0, srcBox c p)] (l7InsP c p) := by
  have c3 := c_spec_l1Next c hc p 3 (by omega) (by omega)
  have c14 := c_spec_l1Next c hc (p + 1) 14 (by omega) (by omega)
  rw [hv] at c14
  refine mutS_fn_of lv203 Try.func203 rfl rfl (by kernel_rfl) rfl ?_
  refine .inr ⟨rfl, use_mut ⟨_, _, _, _, _, _, rfl, rfl, c3, rfl, ?_⟩⟩
  refine .inr ⟨rfl, use_mut ⟨_, _, _, _, _, _, rfl, rfl, c14, rfl, ?_⟩⟩
  repeat' (first | refine bsplit_true ?_ | refine bsplit_false ?_ | (refine .inr ⟨rfl, use_mut ⟨?_, ?_, ?_, ?_, ?_, ?_, ?_, ?_, ?_, ?_, ?_⟩⟩; rotate_left 6; exact rfl; exact rfl; (first | (refine c_spec_l1Next c hc _ _ ?_ ?_ <;> (first | omega | (dsimp only; omega))) | (refine pick3 c hc _ _ _ _ ?_ ?_ <;> (first | omega | (dsimp only; omega))) | (refine pick4 c hc _ _ _ _ _ ?_ ?_ <;> (first | omega | (dsimp only; omega))) | (refine pick2 c hc _ _ _ ?_ ?_ <;> (first | omega | (dsimp only; omega))) | (refine pick6 c hc _ _ _ _ _ _ _ ?_ ?_ <;> (first | omega | (dsimp only; omega))) | (refine pick7 c hc _ _ _ _ _ _ _ _ ?_ ?_ <;> (first | omega | (dsimp only; omega))) | (refine pick5 c hc _ _ _ _ _ _ ?_ ?_ <;> (first | omega | (dsimp only; omega))) | (refine c_spec_l1Chance c hc _ _ ?_ ?_ <;> (first | omega | (dsimp only; omega))) | (refine c_spec_l1Word c hc _ ?_ ?_ <;> (first | omega | (dsimp only; omega)))); rfl))
  exact ⟨_, _, _, [], ⟨⟨_, _, _, _⟩, p + 1 + 1 + 1 + 1 + 1 + 1 + 1, by omega, by omega, rfl, rfl, rfl⟩, chk_intro (by kernel_rfl) ⟨⟨rfl, rfl, rfl, rfl, trivial⟩, tellHp_box rfl rfl ⟨DLe.refl _, rfl, trivial⟩ tellHp_nil⟩⟩
theorem c_l7_2 (c : List Int) (hc : okCode c) (p : Int) (hp : 0 ≤ p) (hp2 : p ≤ 109951162) (hv : nx c (p + 1) 14 = 2) : MutS Try.prog 203 [.ptr 0 0] 1 [(0, srcBox c p)] (l7InsP c p) := by
  have c3 := c_spec_l1Next c hc p 3 (by omega) (by omega)
  have c14 := c_spec_l1Next c hc (p + 1) 14 (by omega) (by omega)
  rw [hv] at c14
  refine mutS_fn_of lv203 Try.func203 rfl rfl (by kernel_rfl) rfl ?_
  refine .inr ⟨rfl, use_mut ⟨_, _, _, _, _, _, rfl, rfl, c3, rfl, ?_⟩⟩
  refine .inr ⟨rfl, use_mut ⟨_, _, _, _, _, _, rfl, rfl, c14, rfl, ?_⟩⟩
  repeat' (first | refine bsplit_true ?_ | refine bsplit_false ?_ | (refine .inr ⟨rfl, use_mut ⟨?_, ?_, ?_, ?_, ?_, ?_, ?_, ?_, ?_, ?_, ?_⟩⟩; rotate_left 6; exact rfl; exact rfl; (first | (refine c_spec_l1Next c hc _ _ ?_ ?_ <;> (first | omega | (dsimp only; omega))) | (refine pick3 c hc _ _ _ _ ?_ ?_ <;> (first | omega | (dsimp only; omega))) | (refine pick4 c hc _ _ _ _ _ ?_ ?_ <;> (first | omega | (dsimp only; omega))) | (refine pick2 c hc _ _ _ ?_ ?_ <;> (first | omega | (dsimp only; omega))) | (refine pick6 c hc _ _ _ _ _ _ _ ?_ ?_ <;> (first | omega | (dsimp only; omega))) | (refine pick7 c hc _ _ _ _ _ _ _ _ ?_ ?_ <;> (first | omega | (dsimp only; omega))) | (refine pick5 c hc _ _ _ _ _ _ ?_ ?_ <;> (first | omega | (dsimp only; omega))) | (refine c_spec_l1Chance c hc _ _ ?_ ?_ <;> (first | omega | (dsimp only; omega))) | (refine c_spec_l1Word c hc _ ?_ ?_ <;> (first | omega | (dsimp only; omega)))); rfl))
  exact ⟨_, _, _, [], ⟨⟨_, _, _, _⟩, p + 1 + 1 + 1 + 1 + 1 + 1 + 1, by omega, by omega, rfl, rfl, rfl⟩, chk_intro (by kernel_rfl) ⟨⟨rfl, rfl, rfl, rfl, trivial⟩, tellHp_box rfl rfl ⟨DLe.refl _, rfl, trivial⟩ tellHp_nil⟩⟩
theorem c_l7_3 (c : List Int) (hc : okCode c) (p : Int) (hp : 0 ≤ p) (hp2 : p ≤ 109951162) (hv : nx c (p + 1) 14 = 3) : MutS Try.prog 203 [.ptr 0 0] 1 [(0, srcBox c p)] (l7InsP c p) := by
  have c3 := c_spec_l1Next c hc p 3 (by omega) (by omega)
  have c14 := c_spec_l1Next c hc (p + 1) 14 (by omega) (by omega)
  rw [hv] at c14
  refine mutS_fn_of lv203 Try.func203 rfl rfl (by kernel_rfl) rfl ?_
  refine .inr ⟨rfl, use_mut ⟨_, _, _, _, _, _, rfl, rfl, c3, rfl, ?_⟩⟩
  refine .inr ⟨rfl, use_mut ⟨_, _, _, _, _, _, rfl, rfl, c14, rfl, ?_⟩⟩
  repeat' (first | refine bsplit_true ?_ | refine bsplit_false ?_ | (refine .inr ⟨rfl, use_mut ⟨?_, ?_, ?_, ?_, ?_, ?_, ?_, ?_, ?_, ?_, ?_⟩⟩; rotate_left 6; exact rfl; exact rfl; (first | (refine c_spec_l1Next c hc _ _ ?_ ?_ <;> (first | omega | (dsimp only; omega))) | (refine pick3 c hc _ _ _ _ ?_ ?_ <;> (first | omega | (dsimp only; omega))) | (refine pick4 c hc _ _ _ _ _ ?_ ?_ <;> (first | omega | (dsimp only; omega))) | (refine pick2 c hc _ _ _ ?_ ?_ <;> (first | omega | (dsimp only; omega))) | (refine pick6 c hc _ _ _ _ _ _ _ ?_ ?_ <;> (first | omega | (dsimp only; omega))) | (refine pick7 c hc _ _ _ _ _ _ _ _ ?_ ?_ <;> (first | omega | (dsimp only; omega))) | (refine pick5 c hc _ _ _ _ _ _ ?_ ?_ <;> (first | omega | (dsimp only; omega))) | (refine c_spec_l1Chance c hc _ _ ?_ ?_ <;> (first | omega | (dsimp only; omega))) | (refine c_spec_l1Word c hc _ ?_ ?_ <;> (first | omega | (dsimp only; omega)))); rfl))
  exact ⟨_, _, _, [], ⟨⟨_, _, _, _⟩, p + 1 + 1 + 1 + 1 + 1, by omega, by omega, rfl, rfl, rfl⟩, chk_intro (by kernel_rfl) ⟨⟨rfl, rfl, rfl, rfl, trivial⟩, tellHp_box rfl rfl ⟨DLe.refl _, rfl, trivial⟩ tellHp_nil⟩⟩
theorem c_l7_4 (c : List Int) (hc : okCode c) (p : Int) (hp : 0 ≤ p) (hp2 : p ≤ 109951162) (hv : nx c (p + 1) 14 = 4) : MutS Try.prog 203 [.ptr 0 0] 1 [(0, srcBox c p)] (l7InsP c p) := by
  have c3 := c_spec_l1Next c hc p 3 (by omega) (by omega)
  have c14 := c_spec_l1Next c hc (p + 1) 14 (by omega) (by omega)
  rw [hv] at c14
  refine mutS_fn_of lv203 Try.func203 rfl rfl (by kernel_rfl) rfl ?_
  refine .inr ⟨rfl, use_mut ⟨_, _, _, _, _, _, rfl, rfl, c3, rfl, ?_⟩⟩
  refine .inr ⟨rfl, use_mut ⟨_, _, _, _, _, _, rfl, rfl, c14, rfl, ?_⟩⟩
  repeat' (first | refine bsplit_true ?_ | refine bsplit_false ?_ | (refine .inr ⟨rfl, use_mut ⟨?_, ?_, ?_, ?_, ?_, ?_, ?_, ?_, ?_, ?_, ?_⟩⟩; rotate_left 6; exact rfl; exact rfl; (first | (refine c_spec_l1Next c hc _ _ ?_ ?_ <;> (first | omega | (dsimp only; omega))) | (refine pick3 c hc _ _ _ _ ?_ ?_ <;> (first | omega | (dsimp only; omega))) | (refine pick4 c hc _ _ _ _ _ ?_ ?_ <;> (first | omega | (dsimp only; omega))) | (refine pick2 c hc _ _ _ ?_ ?_ <;> (first | omega | (dsimp only; omega))) | (refine pick6 c hc _ _ _ _ _ _ _ ?_ ?_ <;> (first | omega | (dsimp only; omega))) | (refine pick7 c hc _ _ _ _ _ _ _ _ ?_ ?_ <;> (first | omega | (dsimp only; omega))) | (refine pick5 c hc _ _ _ _ _ _ ?_ ?_ <;> (first | omega | (dsimp only; omega))) | (refine c_spec_l1Chance c hc _ _ ?_ ?_ <;> (first | omega | (dsimp only; omega))) | (refine c_spec_l1Word c hc _ ?_ ?_ <;> (first | omega | (dsimp only; omega)))); rfl))
  exact ⟨_, _, _, [], ⟨⟨_, _, _, _⟩, p + 1 + 1 + 1 + 1 + 1 + 1 + 1, by omega, by omega, rfl, rfl, rfl⟩, chk_intro (by kernel_rfl) ⟨⟨rfl, rfl, rfl, rfl, trivial⟩, tellHp_box rfl rfl ⟨DLe.refl _, rfl, trivial⟩ tellHp_nil⟩⟩
theorem c_l7_5 (c : List Int) (hc : okCode c) (p : Int) (hp : 0 ≤ p) (hp2 : p ≤ 109951162) (hv : nx c (p + 1) 14 = 5) : MutS Try.prog 203 [.ptr 0 0] 1 [(0, srcBox c p)] (l7InsP c p) := by
  have c3 := c_spec_l1Next c hc p 3 (by omega) (by omega)
  have c14 := c_spec_l1Next c hc (p + 1) 14 (by omega) (by omega)
  rw [hv] at c14
  refine mutS_fn_of lv203 Try.func203 rfl rfl (by kernel_rfl) rfl ?_
  refine .inr ⟨rfl, use_mut ⟨_, _, _, _, _, _, rfl, rfl, c3, rfl, ?_⟩⟩
  refine .inr ⟨rfl, use_mut ⟨_, _, _, _, _, _, rfl, rfl, c14, rfl, ?_⟩⟩
  repeat' (first | refine bsplit_true ?_ | refine bsplit_false ?_ | (refine .inr ⟨rfl, use_mut ⟨?_, ?_, ?_, ?_, ?_, ?_, ?_, ?_, ?_, ?_, ?_⟩⟩; rotate_left 6; exact rfl; exact rfl; (first | (refine c_spec_l1Next c hc _ _ ?_ ?_ <;> (first | omega | (dsimp only; omega))) | (refine pick3 c hc _ _ _ _ ?_ ?_ <;> (first | omega | (dsimp only; omega))) | (refine pick4 c hc _ _ _ _ _ ?_ ?_ <;> (first | omega | (dsimp only; omega))) | (refine pick2 c hc _ _ _ ?_ ?_ <;> (first | omega | (dsimp only; omega))) | (refine pick6 c hc _ _ _ _ _ _ _ ?_ ?_ <;> (first | omega | (dsimp only; omega))) | (refine pick7 c hc _ _ _ _ _ _ _ _ ?_ ?_ <;> (first | omega | (dsimp only; omega))) | (refine pick5 c hc _ _ _ _ _ _ ?_ ?_ <;> (first | omega | (dsimp only; omega))) | (refine c_spec_l1Chance c hc _ _ ?_ ?_ <;> (first | omega | (dsimp only; omega))) | (refine c_spec_l1Word c hc _ ?_ ?_ <;> (first | omega | (dsimp only; omega)))); rfl))
  exact ⟨_, _, _, [], ⟨⟨_, _, _, _⟩, p + 1 + 1 + 1 + 1 + 1 + 1 + 1, by omega, by omega, rfl, rfl, rfl⟩, chk_intro (by kernel_rfl) ⟨⟨rfl, rfl, rfl, rfl, trivial⟩, tellHp_box rfl rfl ⟨DLe.refl _, rfl, trivial⟩ tellHp_nil⟩⟩
theorem c_l7_6 (c : List Int) (hc : okCode c) (p : Int) (hp : 0 ≤ p) (hp2 : p ≤ 109951162) (hv : nx c (p + 1) 14 = 6) : MutS Try.prog 203 [.ptr 0 0] 1 [(0, srcBox c p)] (l7InsP c p) := by
  have c3 := c_spec_l1Next c hc p 3 (by omega) (by omega)
  have c14 := c_spec_l1Next c hc (p + 1) 14 (by omega) (by omega)
  rw [hv] at c14
  refine mutS_fn_of lv203 Try.func203 rfl rfl (by kernel_rfl) rfl ?_
  refine .inr ⟨rfl, use_mut ⟨_, _, _, _, _, _, rfl, rfl, c3, rfl, ?_⟩⟩
  refine .inr ⟨rfl, use_mut ⟨_, _, _, _, _, _, rfl, rfl, c14, rfl, ?_⟩⟩
  repeat' (first | refine bsplit_true ?_ | refine bsplit_false ?_ | (refine .inr ⟨rfl, use_mut ⟨?_, ?_, ?_, ?_, ?_, ?_, ?_, ?_, ?_, ?_, ?_⟩⟩; rotate_left 6; exact rfl; exact rfl; (first | (refine c_spec_l1Next c hc _ _ ?_ ?_ <;> (first | omega | (dsimp only; omega))) | (refine pick3 c hc _ _ _ _ ?_ ?_ <;> (first | omega | (dsimp only; omega))) | (refine pick4 c hc _ _ _ _ _ ?_ ?_ <;> (first | omega | (dsimp only; omega))) | (refine pick2 c hc _ _ _ ?_ ?_ <;> (first | omega | (dsimp only; omega))) | (refine pick6 c hc _ _ _ _ _ _ _ ?_ ?_ <;> (first | omega | (dsimp only; omega))) | (refine pick7 c hc _ _ _ _ _ _ _ _ ?_ ?_ <;> (first | omega | (dsimp only; omega))) | (refine pick5 c hc _ _ _ _ _ _ ?_ ?_ <;> (first | omega | (dsimp only; omega))) | (refine c_spec_l1Chance c hc _ _ ?_ ?_ <;> (first | omega | (dsimp only; omega))) | (refine c_spec_l1Word c hc _ ?_ ?_ <;> (first | omega | (dsimp only; omega)))); rfl))
  exact ⟨_, _, _, [], ⟨⟨_, _, _, _⟩, p + 1 + 1 + 1 + 1 + 1 + 1 + 1, by omega, by omega, rfl, rfl, rfl⟩, chk_intro (by kernel_rfl) ⟨⟨rfl, rfl, rfl, rfl, trivial⟩, tellHp_box rfl rfl ⟨DLe.refl _, rfl, trivial⟩ tellHp_nil⟩⟩
theorem c_l7_7 (c : List Int) (hc : okCode c) (p : Int) (hp : 0 ≤ p) (hp2 : p ≤ 109951162) (hv : nx c (p + 1) 14 = 7) : MutS Try.prog 203 [.ptr 0 0] 1 [(0, srcBox c p)] (l7InsP c p) := by
  have c3 := c_spec_l1Next c hc p 3 (by omega) (by omega)
  have c14 := c_spec_l1Next c hc (p + 1) 14 (by omega) (by omega)
  rw [hv] at c14
  refine mutS_fn_of lv203 Try.func203 rfl rfl (by kernel_rfl) rfl ?_
  refine .inr ⟨rfl, use_mut ⟨_, _, _, _, _, _, rfl, rfl, c3, rfl, ?_⟩⟩
  refine .inr ⟨rfl, use_mut ⟨_, _, _, _, _, _, rfl, rfl, c14, rfl, ?_⟩⟩
  repeat' (first | refine bsplit_true ?_ | refine bsplit_false ?_ | (refine .inr ⟨rfl, use_mut ⟨?_, ?_, ?_, ?_, ?_, ?_, ?_, ?_, ?_, ?_, ?_⟩⟩; rotate_left 6; exact rfl; exact rfl; (first | (refine c_spec_l1Next c hc _ _ ?_ ?_ <;> (first | omega | (dsimp only; omega))) | (refine pick3 c hc _ _ _ _ ?_ ?_ <;> (first | omega | (dsimp only; omega))) | (refine pick4 c hc _ _ _ _ _ ?_ ?_ <;> (first | omega | (dsimp only; omega))) | (refine pick2 c hc _ _ _ ?_ ?_ <;> (first | omega | (dsimp only; omega))) | (refine pick6 c hc _ _ _ _ _ _ _ ?_ ?_ <;> (first | omega | (dsimp only; omega))) | (refine pick7 c hc _ _ _ _ _ _ _ _ ?_ ?_ <;> (first | omega | (dsimp only; omega))) | (refine pick5 c hc _ _ _ _ _ _ ?_ ?_ <;> (first | omega | (dsimp only; omega))) | (refine c_spec_l1Chance c hc _ _ ?_ ?_ <;> (first | omega | (dsimp only; omega))) | (refine c_spec_l1Word c hc _ ?_ ?_ <;> (first | omega | (dsimp only; omega)))); rfl))
  exact ⟨_, _, _, [], ⟨⟨_, _, _, _⟩, p + 1 + 1 + 1 + 1 + 1 + 1 + 1, by omega, by omega, rfl, rfl, rfl⟩, chk_intro (by kernel_rfl) ⟨⟨rfl, rfl, rfl, rfl, trivial⟩, tellHp_box rfl rfl ⟨DLe.refl _, rfl, trivial⟩ tellHp_nil⟩⟩
theorem c_l7_8 (c : List Int) (hc : okCode c) (p : Int) (hp : 0 ≤ p) (hp2 : p ≤ 109951162) (hv : nx c (p + 1) 14 = 8) : MutS Try.prog 203 [.ptr 0 0] 1 [(0, srcBox c p)] (l7InsP c p) := by
  have c3 := c_spec_l1Next c hc p 3 (by omega) (by omega)
  have c14 := c_spec_l1Next c hc (p + 1) 14 (by omega) (by omega)
  rw [hv] at c14
  refine mutS_fn_of lv203 Try.func203 rfl rfl (by kernel_rfl) rfl ?_
  refine .inr ⟨rfl, use_mut ⟨_, _, _, _, _, _, rfl, rfl, c3, rfl, ?_⟩⟩
  refine .inr ⟨rfl, use_mut ⟨_, _, _, _, _, _, rfl, rfl, c14, rfl, ?_⟩⟩
  repeat' (first | refine bsplit_true ?_ | refine bsplit_false ?_ | (refine .inr ⟨rfl, use_mut ⟨?_, ?_, ?_, ?_, ?_, ?_, ?_, ?_, ?_, ?_, ?_⟩⟩; rotate_left 6; exact rfl; exact rfl; (first | (refine c_spec_l1Next c hc _ _ ?_ ?_ <;> (first | omega | (dsimp only; omega))) | (refine pick3 c hc _ _ _ _ ?_ ?_ <;> (first | omega | (dsimp only; omega))) | (refine pick4 c hc _ _ _ _ _ ?_ ?_ <;> (first | omega | (dsimp only; omega))) | (refine pick2 c hc _ _ _ ?_ ?_ <;> (first | omega | (dsimp only; omega))) | (refine pick6 c hc _ _ _ _ _ _ _ ?_ ?_ <;> (first | omega | (dsimp only; omega))) | (refine pick7 c hc _ _ _ _ _ _ _ _ ?_ ?_ <;> (first | omega | (dsimp only; omega))) | (refine pick5 c hc _ _ _ _ _ _ ?_ ?_ <;> (first | omega | (dsimp only; omega))) | (refine c_spec_l1Chance c hc _ _ ?_ ?_ <;> (first | omega | (dsimp only; omega))) | (refine c_spec_l1Word c hc _ ?_ ?_ <;> (first | omega | (dsimp only; omega)))); rfl))
  exact ⟨_, _, _, [], ⟨⟨_, _, _, _⟩, p + 1 + 1 + 1 + 1 + 1, by omega, by omega, rfl, rfl, rfl⟩, chk_intro (by kernel_rfl) ⟨⟨rfl, rfl, rfl, rfl, trivial⟩, tellHp_box rfl rfl ⟨DLe.refl _, rfl, trivial⟩ tellHp_nil⟩⟩
theorem c_l7_9 (c : List Int) (hc : okCode c) (p : Int) (hp : 0 ≤ p) (hp2 : p ≤ 109951162) (hv : nx c (p + 1) 14 = 9) : MutS Try.prog 203 [.ptr 0 0] 1 [(0, srcBox c p)] (l7InsP c p) := by
  have c3 := c_spec_l1Next c hc p 3 (by omega) (by omega)
  have c14 := c_spec_l1Next c hc (p + 1) 14 (by omega) (by omega)
  rw [hv] at c14
  refine mutS_fn_of lv203 Try.func203 rfl rfl (by kernel_rfl) rfl ?_
  refine .inr ⟨rfl, use_mut ⟨_, _, _, _, _, _, rfl, rfl, c3, rfl, ?_⟩⟩
  refine .inr ⟨rfl, use_mut ⟨_, _, _, _, _, _, rfl, rfl, c14, rfl, ?_⟩⟩
  repeat' (first | refine bsplit_true ?_ | refine bsplit_false ?_ | (refine .inr ⟨rfl, use_mut ⟨?_, ?_, ?_, ?_, ?_, ?_, ?_, ?_, ?_, ?_, ?_⟩⟩; rotate_left 6; exact rfl; exact rfl; (first | (refine c_spec_l1Next c hc _ _ ?_ ?_ <;> (first | omega | (dsimp only; omega))) | (refine pick3 c hc _ _ _ _ ?_ ?_ <;> (first | omega | (dsimp only; omega))) | (refine pick4 c hc _ _ _ _ _ ?_ ?_ <;> (first | omega | (dsimp only; omega))) | (refine pick2 c hc _ _ _ ?_ ?_ <;> (first | omega | (dsimp only; omega))) | (refine pick6 c hc _ _ _ _ _ _ _ ?_ ?_ <;> (first | omega | (dsimp only; omega))) | (refine pick7 c hc _ _ _ _ _ _ _ _ ?_ ?_ <;> (first | omega | (dsimp only; omega))) | (refine pick5 c hc _ _ _ _ _ _ ?_ ?_ <;> (first | omega | (dsimp only; omega))) | (refine c_spec_l1Chance c hc _ _ ?_ ?_ <;> (first | omega | (dsimp only; omega))) | (refine c_spec_l1Word c hc _ ?_ ?_ <;> (first | omega | (dsimp only; omega)))); rfl))
  exact ⟨_, _, _, [], ⟨⟨_, _, _, _⟩, p + 1 + 1 + 1, by omega, by omega, rfl, rfl, rfl⟩, chk_intro (by kernel_rfl) ⟨⟨rfl, rfl, rfl, rfl, trivial⟩, tellHp_box rfl rfl ⟨DLe.refl _, rfl, trivial⟩ tellHp_nil⟩⟩
theorem c_l7_10 (c : List Int) (hc : okCode c) (p : Int) (hp : 0 ≤ p) (hp2 : p ≤ 109951162) (hv : nx c (p + 1) 14 = 10) : MutS Try.prog 203 [.ptr 0 0] 1 [(0, srcBox c p)] (l7InsP c p) := by
  have c3 := c_spec_l1Next c hc p 3 (by omega) (by omega)
  have c14 := c_spec_l1Next c hc (p + 1) 14 (by omega) (by omega)
  rw [hv] at c14
  refine mutS_fn_of lv203 Try.func203 rfl rfl (by kernel_rfl) rfl ?_
  refine .inr ⟨rfl, use_mut ⟨_, _, _, _, _, _, rfl, rfl, c3, rfl, ?_⟩⟩
  refine .inr ⟨rfl, use_mut ⟨_, _, _, _, _, _, rfl, rfl, c14, rfl, ?_⟩⟩
  repeat' (first | refine bsplit_true ?_ | refine bsplit_false ?_ | (refine .inr ⟨rfl, use_mut ⟨?_, ?_, ?_, ?_, ?_, ?_, ?_, ?_, ?_, ?_, ?_⟩⟩; rotate_left 6; exact rfl; exact rfl; (first | (refine c_spec_l1Next c hc _ _ ?_ ?_ <;> (first | omega | (dsimp only; omega))) | (refine pick3 c hc _ _ _ _ ?_ ?_ <;> (first | omega | (dsimp only; omega))) | (refine pick4 c hc _ _ _ _ _ ?_ ?_ <;> (first | omega | (dsimp only; omega))) | (refine pick2 c hc _ _ _ ?_ ?_ <;> (first | omega | (dsimp only; omega))) | (refine pick6 c hc _ _ _ _ _ _ _ ?_ ?_ <;> (first | omega | (dsimp only; omega))) | (refine pick7 c hc _ _ _ _ _ _ _ _ ?_ ?_ <;> (first | omega | (dsimp only; omega))) | (refine pick5 c hc _ _ _ _ _ _ ?_ ?_ <;> (first | omega | (dsimp only; omega))) | (refine c_spec_l1Chance c hc _ _ ?_ ?_ <;> (first | omega | (dsimp only; omega))) | (refine c_spec_l1Word c hc _ ?_ ?_ <;> (first | omega | (dsimp only; omega)))); rfl))
  exact ⟨_, _, _, [], ⟨⟨_, _, _, _⟩, p + 1 + 1 + 1, by omega, by omega, rfl, rfl, rfl⟩, chk_intro (by kernel_rfl) ⟨⟨rfl, rfl, rfl, rfl, trivial⟩, tellHp_box rfl rfl ⟨DLe.refl _, rfl, trivial⟩ tellHp_nil⟩⟩
theorem c_l7_11 (c : List Int) (hc : okCode c) (p : Int) (hp : 0 ≤ p) (hp2 : p ≤ 109951162) (hv : nx c (p + 1) 14 = 11) : MutS Try.prog 203 [.ptr 0 0] 1 [(0, srcBox c p)] (l7InsP c p) := by
  have c3 := c_spec_l1Next c hc p 3 (by omega) (by omega)
  have c14 := c_spec_l1Next c hc (p + 1) 14 (by omega) (by omega)
  rw [hv] at c14
  refine mutS_fn_of lv203 Try.func203 rfl rfl (by kernel_rfl) rfl ?_
  refine .inr ⟨rfl, use_mut ⟨_, _, _, _, _, _, rfl, rfl, c3, rfl, ?_⟩⟩
  refine .inr ⟨rfl, use_mut ⟨_, _, _, _, _, _, rfl, rfl, c14, rfl, ?_⟩⟩
  repeat' (first | refine bsplit_true ?_ | refine bsplit_false ?_ | (refine .inr ⟨rfl, use_mut ⟨?_, ?_, ?_, ?_, ?_, ?_, ?_, ?_, ?_, ?_, ?_⟩⟩; rotate_left 6; exact rfl; exact rfl; (first | (refine c_spec_l1Next c hc _ _ ?_ ?_ <;> (first | omega | (dsimp only; omega))) | (refine pick3 c hc _ _ _ _ ?_ ?_ <;> (first | omega | (dsimp only; omega))) | (refine pick4 c hc _ _ _ _ _ ?_ ?_ <;> (first | omega | (dsimp only; omega))) | (refine pick2 c hc _ _ _ ?_ ?_ <;> (first | omega | (dsimp only; omega))) | (refine pick6 c hc _ _ _ _ _ _ _ ?_ ?_ <;> (first | omega | (dsimp only; omega))) | (refine pick7 c hc _ _ _ _ _ _ _ _ ?_ ?_ <;> (first | omega | (dsimp only; omega))) | (refine pick5 c hc _ _ _ _ _ _ ?_ ?_ <;> (first | omega | (dsimp only; omega))) | (refine c_spec_l1Chance c hc _ _ ?_ ?_ <;> (first | omega | (dsimp only; omega))) | (refine c_spec_l1Word c hc _ ?_ ?_ <;> (first | omega | (dsimp only; omega)))); rfl))
  exact ⟨_, _, _, [], ⟨⟨_, _, _, _⟩, p + 1 + 1 + 1 + 1, by omega, by omega, rfl, rfl, rfl⟩, chk_intro (by kernel_rfl) ⟨⟨rfl, rfl, rfl, rfl, trivial⟩, tellHp_box rfl rfl ⟨DLe.refl _, rfl, trivial⟩ tellHp_nil⟩⟩
theorem c_l7_12 (c : List Int) (hc : okCode c) (p : Int) (hp : 0 ≤ p) (hp2 : p ≤ 109951162) (hv : nx c (p + 1) 14 = 12) : MutS Try.prog 203 [.ptr 0 0] 1 [(0, srcBox c p)] (l7InsP c p) := by
  have c3 := c_spec_l1Next c hc p 3 (by omega) (by omega)
  have c14 := c_spec_l1Next c hc (p + 1) 14 (by omega) (by omega)
  have ci := c_spec_l2Ins c hc (p + 1 + 1) (by omega) (by omega)
  rw [hv] at c14
  refine mutS_fn_of lv203 Try.func203 rfl rfl (by kernel_rfl) rfl ?_
  refine .inr ⟨rfl, use_mut ⟨_, _, _, _, _, _, rfl, rfl, c3, rfl, ?_⟩⟩
  refine .inr ⟨rfl, use_mut ⟨_, _, _, _, _, _, rfl, rfl, c14, rfl, ?_⟩⟩
  repeat' (first | refine bsplit_true ?_ | refine bsplit_false ?_)
  refine .inr ⟨rfl, use_mutS ⟨_, _, _, _, rfl, rfl, ci, rfl, ?_⟩⟩
  rintro _ _ _ ⟨x, q, hq1, hq2, rfl, rfl, rfl⟩
  refine ⟨rfl, ?_⟩
  exact ⟨_, _, _, [], ⟨x, q, by omega, by omega, rfl, rfl, rfl⟩, chk_intro (by kernel_rfl) ⟨⟨rfl, rfl, rfl, rfl, trivial⟩, tellHp_box rfl rfl ⟨DLe.refl _, rfl, trivial⟩ tellHp_nil⟩⟩
theorem c_l7_13 (c : List Int) (hc : okCode c) (p : Int) (hp : 0 ≤ p) (hp2 : p ≤ 109951162) (hv : nx c (p + 1) 14 = 13) : MutS Try.prog 203 [.ptr 0 0] 1 [(0, srcBox c p)] (l7InsP c p) := by
  have c3 := c_spec_l1Next c hc p 3 (by omega) (by omega)
  have c14 := c_spec_l1Next c hc (p + 1) 14 (by omega) (by omega)
  have ci := c_spec_l2Ins c hc (p + 1 + 1) (by omega) (by omega)
  rw [hv] at c14
  refine mutS_fn_of lv203 Try.func203 rfl rfl (by kernel_rfl) rfl ?_
  refine .inr ⟨rfl, use_mut ⟨_, _, _, _, _, _, rfl, rfl, c3, rfl, ?_⟩⟩
  refine .inr ⟨rfl, use_mut ⟨_, _, _, _, _, _, rfl, rfl, c14, rfl, ?_⟩⟩
  repeat' (first | refine bsplit_true ?_ | refine bsplit_false ?_)
  refine .inr ⟨rfl, use_mutS ⟨_, _, _, _, rfl, rfl, ci, rfl, ?_⟩⟩
  rintro _ _ _ ⟨x, q, hq1, hq2, rfl, rfl, rfl⟩
  refine ⟨rfl, ?_⟩
  exact ⟨_, _, _, [], ⟨x, q, by omega, by omega, rfl, rfl, rfl⟩, chk_intro (by kernel_rfl) ⟨⟨rfl, rfl, rfl, rfl, trivial⟩, tellHp_box rfl rfl ⟨DLe.refl _, rfl, trivial⟩ tellHp_nil⟩⟩
theorem c_spec_l7Ins (c : List Int) (hc : okCode c) (p : Int) (hp : 0 ≤ p) (hp2 : p ≤ 109951162) : MutS Try.prog 203 [.ptr 0 0] 1 [(0, srcBox c p)] (l7InsP c p) := by
  have h := nx_in (c := c) hc (p := p + 1) (n := 14) (by omega) (by omega)
  by_cases h0 : nx c (p + 1) 14 = 0
  · exact c_l7_0 c hc p hp hp2 h0
  by_cases h1 : nx c (p + 1) 14 = 1
  · exact c_l7_1 c hc p hp hp2 h1
  by_cases h2 : nx c (p + 1) 14 = 2
  · exact c_l7_2 c hc p hp hp2 h2
  by_cases h3 : nx c (p + 1) 14 = 3
  · exact c_l7_3 c hc p hp hp2 h3
  by_cases h4 : nx c (p + 1) 14 = 4
  · exact c_l7_4 c hc p hp hp2 h4
  by_cases h5 : nx c (p + 1) 14 = 5
  · exact c_l7_5 c hc p hp hp2 h5
  by_cases h6 : nx c (p + 1) 14 = 6
  · exact c_l7_6 c hc p hp hp2 h6
  by_cases h7 : nx c (p + 1) 14 = 7
  · exact c_l7_7 c hc p hp hp2 h7
  by_cases h8 : nx c (p + 1) 14 = 8
  · exact c_l7_8 c hc p hp hp2 h8
  by_cases h9 : nx c (p + 1) 14 = 9
  · exact c_l7_9 c hc p hp hp2 h9
  by_cases h10 : nx c (p + 1) 14 = 10
  · exact c_l7_10 c hc p hp hp2 h10
  by_cases h11 : nx c (p + 1) 14 = 11
  · exact c_l7_11 c hc p hp hp2 h11
  by_cases h12 : nx c (p + 1) 14 = 12
  · exact c_l7_12 c hc p hp hp2 h12
  by_cases h13 : nx c (p + 1) 14 = 13
  · exact c_l7_13 c hc p hp hp2 h13
  omega
end Go.Proofs.Ytojaakpnpdnbhaa.L

/- Images drawn: contracts. -/
set_option linter.unusedVariables false
set_option linter.unusedSimpArgs false
set_option maxRecDepth 100000
namespace Go.Proofs.Ytojaakpnpdnbhaa.L
open Go.RowKit
def encV (x : InsM) : Int := IntKind.i64.wrap (IntKind.i64.wrap (IntKind.i64.wrap (IntKind.i64.wrap (x.op * 2 ^ min (Int.toNat 24) IntKind.i64.bits) + IntKind.i64.wrap (x.d * 2 ^ min (Int.toNat 20) IntKind.i64.bits)) + IntKind.i64.wrap (x.a * 2 ^ min (Int.toNat 16) IntKind.i64.bits)) + x.imm)
theorem c_spec_EncodeIns (x : InsM) : ∃ e v, FnOK Try.prog 202 [insLV x] (.r (irR (e, v))) := by
  have c1 := c_spec_InsFault x
  by_cases h : insFault x = 0
  · rw [h] at c1
    refine ⟨0, encV x, ?_⟩
    refine fn_of lv202 Try.func202 rfl rfl (by kernel_rfl) rfl ?_
    refine .inl ⟨_, _, rfl, c1, rfl, ?_⟩
    repeat' (first | refine bsplit_true ?_ | refine bsplit_false ?_)
    refine ask_intro (by decide) ?_
    refine ask_intro (by decide) ?_
    refine ask_intro (by decide) ?_
    exact ⟨⟨rfl, rfl, trivial⟩, rfl⟩
  · refine ⟨insFault x, 0, ?_⟩
    generalize insFault x = e at *
    refine fn_of lv202 Try.func202 rfl rfl (by kernel_rfl) rfl ?_
    refine .inl ⟨_, _, rfl, c1, rfl, ?_⟩
    refine bsplit_of_true (by simpa using h) ?_
    exact ⟨⟨rfl, rfl, trivial⟩, rfl⟩
theorem c_spec_l7Image (c : List Int) (hc : okCode c) (p n : Int) (hp : 0 ≤ p) (hp2 : p ≤ 1000000) (hn : n ≤ 1000) (hn0 : 0 ≤ n) : MutS Try.prog 175 [.ptr 0 0, di n] 1 [(0, srcBox c p)]
    (fun lv m' hp1 => ∃ (l : List Int) (q : Int), (l.length : Int) = n ∧ p ≤ q ∧ q ≤ p + 16 * n ∧ lv = .row 1 ∧ m' = 2 ∧ hp1 = [(0, srcBox c q), (1, rowE l)]) := by
  refine mutS_fn_of lv175 Try.func175 rfl rfl (by kernel_rfl) rfl ?_
  refine ⟨{ x : List Int × Int // (x.1.length : Int) ≤ n ∧ p ≤ x.2 ∧ x.2 ≤ p + 16 * x.1.length }, fun x => ⟨frL [(0, .ptr 0 0), (1, di (n - x.1.1.length)), (5, .row 11)], hpL [(0, srcBox c x.1.2), (11, rowE x.1.1)], 100, 1⟩, fun x => (n - x.1.1.length).toNat, ⟨([], p), by show ((0 : Nat) : Int) ≤ n; omega, by show p ≤ p; omega, by show p ≤ p + 16 * ((0 : Nat) : Int); omega⟩,
    le_of [(11, 4097)] rfl rfl rfl rfl (tellHp_box rfl rfl ⟨DLe.refl _, rfl, trivial⟩ (tellHp_row rfl rfl rfl (fun j hj => absurd hj (Nat.not_lt_zero _)) tellHp_nil)) (tellFr_ptr rfl rfl (tellFr_v rfl (congrArg (Value.int .i64) (show n = n - ((0 : Nat) : Int) by omega)) (tellFr_row rfl rfl trivial))), ?_⟩
  rintro ⟨⟨l, q⟩, h1, h2, h3⟩
  simp only at h1 h2 h3
  by_cases h : (l.length : Int) < n
  · have hln : ∀ w : Int, (l ++ [w]).length = l.length + 1 := fun w => by simp
    have hw : ∀ w : Int, IntKind.i64.wrap (n - (l.length : Int) - 1) = n - ((l ++ [w]).length : Int) := fun w => by rw [wrap_i64 _ (by omega) (by omega), hln]; omega
    have ci := c_spec_l7Ins c hc q (by omega) (by omega)
    refine bsplit_of_true (decide_eq_true (show n - (l.length : Int) > 0 by omega)) ?_
    refine .inr ⟨rfl, use_mutS ⟨_, _, _, _, rfl, rfl, ci, rfl, ?_⟩⟩
    rintro _ _ _ ⟨x, q1, hq1, hq2, rfl, rfl, rfl⟩
    refine ⟨rfl, ?_⟩
    obtain ⟨e, v, ce⟩ := c_spec_EncodeIns x
    have cc := c_spec_l1Chance c hc q1 20 (by omega) (by omega)
    have cw := c_spec_l1Word c hc (q1 + 1) (by omega) (by omega)
    refine .inl ⟨_, _, rfl, ce, rfl, ?_⟩
    refine .inr ⟨rfl, use_mut ⟨_, _, _, _, _, _, rfl, rfl, cc, rfl, ?_⟩⟩
    refine bsplit_intro (fun h6 => ?_) (fun h6 => ?_)
    · refine .inr ⟨rfl, use_mut ⟨_, _, _, _, _, _, rfl, rfl, cw, rfl, ?_⟩⟩
      refine ask_intro ⟨by show (l.length + 1) * 8 ≤ 140737488355328; omega, by show l.length + 1 ≤ 9223372036854775807; omega, fun j hj => by obtain rfl : j = 0 := (by omega); rfl⟩ ?_
      have hl2 := hln (wd c (q1 + 1))
      exact ⟨⟨(l ++ [wd c (q1 + 1)], q1 + 1 + 5), by show ((l ++ [wd c (q1 + 1)]).length : Int) ≤ n; omega, by show p ≤ q1 + 1 + 5; omega, by show q1 + 1 + 5 ≤ p + 16 * ((l ++ [wd c (q1 + 1)]).length : Int); omega⟩,
        le_of [(11, 16580)] rfl rfl rfl rfl (tellHp_box rfl rfl ⟨DLe.refl _, rfl, trivial⟩ (tellHp_row rfl rfl hl2.symm (fun j hj => upto_snoc l _ _ rfl j hj) tellHp_nil)) (tellFr_ptr rfl rfl (tellFr_v rfl (congrArg (Value.int .i64) (hw _)) (tellFr_row rfl rfl trivial))), by show (n - ((l ++ [wd c (q1 + 1)]).length : Int)).toNat < (n - (l.length : Int)).toNat; omega⟩
    · refine ask_intro ⟨by show (l.length + 1) * 8 ≤ 140737488355328; omega, by show l.length + 1 ≤ 9223372036854775807; omega, fun j hj => by obtain rfl : j = 0 := (by omega); rfl⟩ ?_
      have hl2 := hln v
      exact ⟨⟨(l ++ [v], q1 + 1), by show ((l ++ [v]).length : Int) ≤ n; omega, by show p ≤ q1 + 1; omega, by show q1 + 1 ≤ p + 16 * ((l ++ [v]).length : Int); omega⟩,
        le_of [(11, 12484)] rfl rfl rfl rfl (tellHp_box rfl rfl ⟨DLe.refl _, rfl, trivial⟩ (tellHp_row rfl rfl hl2.symm (fun j hj => upto_snoc l _ _ rfl j hj) tellHp_nil)) (tellFr_ptr rfl rfl (tellFr_v rfl (congrArg (Value.int .i64) (hw _)) (tellFr_row rfl rfl trivial))), by show (n - ((l ++ [v]).length : Int)).toNat < (n - (l.length : Int)).toNat; omega⟩
  · have hl : (l.length : Int) = n := by omega
    refine bsplit_of_false (decide_eq_false (show ¬ n - (l.length : Int) > 0 by omega)) ?_
    exact ⟨_, _, _, [(1, 11)], ⟨l, q, hl, h2, by omega, rfl, rfl, rfl⟩, chk_intro (by kernel_rfl) ⟨rfl, tellHp_box rfl rfl ⟨DLe.refl _, rfl, trivial⟩ (tellHp_row rfl rfl rfl (fun j hj => rfl) tellHp_nil)⟩⟩
end Go.Proofs.Ytojaakpnpdnbhaa.L
