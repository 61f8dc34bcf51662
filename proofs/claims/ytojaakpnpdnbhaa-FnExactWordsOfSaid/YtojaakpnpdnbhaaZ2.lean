/- The law FnExactWordsOf answers true at every input that its statement lets in. -/
import Derived.Test.YtojaakpnpdnbhaaRows
import Derived.Test.YtojaakpnpdnbhaaZ1
/- The words of a guest: contracts. -/
set_option linter.unusedVariables false
set_option linter.unusedSimpArgs false
set_option maxRecDepth 100000
namespace Go.Proofs.Ytojaakpnpdnbhaa.L
open Go.RowKit
theorem c_impl_pagesOf (m ps : List Int) (hm : m.length ≤ 1048576) (hn : ps.length ≤ 1048576) (h : ∀ p ∈ ps, 0 ≤ p ∧ (p + 1) * 8 ≤ m.length) : FnOK Try.prog 95 [.d (ints m), .d (ints ps)] (.r (.one (oInts (wordsL m ps)))) := by
  refine fn_of lv95 Try.func95 rfl rfl (by kernel_rfl) rfl ?_
  refine ⟨{ i : Nat // i ≤ ps.length }, fun i => ⟨frL [(0, .d (ints m)), (5, .row 96), (9, .d (ints ps)), (10, di ps.length), (11, di i.1)], hpL [(96, rowE (wordsL m (ps.take i.1)))], 97, 0⟩, fun i => ps.length - i.1, ⟨0, by omega⟩,
    le_of [(96, 4096)] rfl rfl rfl rfl (tellHp_row rfl rfl (by simp [wordsL]) (fun j hj => absurd hj (by omega)) tellHp_nil) (tellFr_d rfl (DLe.refl _) (tellFr_row rfl rfl (tellFr_d rfl (DLe.refl _) (tellFr_v rfl rfl (tellFr_v rfl rfl trivial))))), ?_⟩
  rintro ⟨i, hi⟩
  refine bsplit_intro (fun hb => ?_) (fun hb => ?_)
  · have hb : i < ps.length := by simp at hb; exact hb
    have hpm : ps.getD i 0 ∈ ps := by simp [List.getD, List.getElem?_eq_getElem hb]
    have et : ps.take (i + 1) = ps.take i ++ [ps.getD i 0] := by rw [List.take_add_one]; simp [List.getD, List.getElem?_eq_getElem hb]
    have hlt := wordsL_len m (ps.take i) (fun q hq => h q (List.mem_of_mem_take hq))
    have ew : wordsL m (ps.take (i + 1)) = wordsL m (ps.take i) ++ pageW m (ps.getD i 0) := by rw [et]; simp [wordsL]
    obtain ⟨hp, hp2⟩ := h _ hpm
    have hpl := pageW_len m _ hp hp2
    have hlt2 : (wordsL m (ps.take i)).length ≤ 8388608 := by rw [hlt, List.length_take]; omega
    refine ask_intro ⟨by omega, by show (i : Int) < (ps.length : Int); omega, rfl⟩ ?_
    refine .inl ⟨_, _, rfl, c_impl_pageOf m (ps.getD i 0) hp (by omega) hp2, rfl, ?_⟩
    refine ask_intro ⟨by show ((wordsL m (ps.take i)).length + (pageW m (ps.getD i 0)).length) * 8 ≤ 140737488355328; omega, by show (wordsL m (ps.take i)).length + (pageW m (ps.getD i 0)).length ≤ 9223372036854775807; omega, fun j hj => rfl⟩ ?_
    refine ⟨⟨i + 1, by omega⟩, le_of [(96, 8417)] rfl rfl rfl rfl (tellHp_row rfl rfl ?_ (fun j hj => ?_) tellHp_nil) (tellFr_d rfl (DLe.refl _) (tellFr_row rfl rfl (tellFr_d rfl (DLe.refl _) (tellFr_v rfl rfl (tellFr_v rfl (congrArg (Value.int .i64) (wrap1 hb (by omega))) trivial))))), by show ps.length - (i + 1) < ps.length - i; omega⟩
    · show (wordsL m (ps.take i)).length + (pageW m (ps.getD i 0)).length = (wordsL m (ps.take (i + 1))).length
      rw [ew, List.length_append]
    · have hj : j < (wordsL m (ps.take i)).length + (pageW m (ps.getD i 0)).length := hj
      show upto (wordsL m (ps.take i)).length (intsF (wordsL m (ps.take i))) (intsF (pageW m (ps.getD i 0))) j = intsF (wordsL m (ps.take (i + 1))) j
      rw [ew]
      exact upto_app _ _ _ (fun q hq => rfl) j hj
  · simp at hb
    have e : i = ps.length := by omega
    subst e
    refine ⟨⟨⟨rfl, rfl, ?_, fun j hj => ⟨?_, rfl⟩⟩, trivial⟩, rfl⟩
    · show (wordsL m (ps.take ps.length)).length = _
      rw [List.take_length]
    · show intsF (wordsL m (ps.take ps.length)) j = _
      rw [List.take_length]
def wordsOf (x : PolM) (m : List Int) (g : Int) : Int × List Int := if askedG x g = 0 then (bif !wholeB m then (1, []) else (0, wordsL m (x.own.getD g.toNat []))) else (askedG x g, [])
theorem own_row {x : PolM} {g : Int} (h : askedG x g = 0) : 0 ≤ g ∧ g < x.own.length ∧ (x.own.getD g.toNat []).length ≤ 5 ∧ ∀ p ∈ x.own.getD g.toNat [], 0 ≤ p ∧ p ≤ 23 := by
  unfold askedG at h
  split at h
  · rename_i hp
    cases hb : guestB x.own.length g with
    | false => rw [hb] at h; simp at h
    | true =>
      have hg := inR_iff.1 (show inR g 0 ((x.own.length : Int) - 1) = true from hb)
      have ho : ownBad x.own = 0 := by
        unfold polFault at hp
        split at hp
        · assumption
        · rename_i e; exact absurd hp e
      have hf : firstNZ (x.own.map rowBad) = 0 := by
        unfold ownBad at ho
        cases hq : inR (x.own.length : Int) 1 3 with
        | false => rw [hq] at ho; simp at ho
        | true =>
          rw [hq] at ho
          have ho : (if firstNZ (x.own.map rowBad) = 0 then (bif dupS [] x.own.flatten then (6 : Int) else 0) else firstNZ (x.own.map rowBad)) = 0 := ho
          split at ho
          · assumption
          · rename_i e; exact absurd ho e
      have hi : g.toNat < x.own.length := by omega
      have hr := firstNZ_all hf (rowBad (x.own.getD g.toNat [])) (List.mem_map.2 ⟨_, by rw [getD_at _ hi]; exact List.getElem_mem hi, rfl⟩)
      refine ⟨hg.1, by omega, row_len hf hi, fun p hpm => ?_⟩
      unfold rowBad at hr
      cases hq : inR ((x.own.getD g.toNat []).length : Int) 1 5 with
      | false => rw [hq] at hr; simp at hr
      | true =>
        rw [hq] at hr
        cases ha : (x.own.getD g.toNat []).all in23 with
        | false => rw [ha] at hr; simp at hr
        | true => exact inR_iff.1 (List.all_eq_true.1 ha p hpm)
  · rename_i e; exact absurd h e
theorem whole_len {m : List Int} (h : wholeB m = true) : (m.length : Int) = 192 := by
  unfold wholeB at h
  rw [Bool.and_eq_true] at h
  simpa using h.2
theorem wordsOf_few (x : PolM) (m : List Int) (g : Int) : (wordsOf x m g).2.length ≤ 1048576 := by
  unfold wordsOf
  split
  · rename_i h
    obtain ⟨h1, h2, h3, h4⟩ := own_row h
    cases hw : wholeB m with
    | false => simp
    | true =>
      have hm := whole_len hw
      have := wordsL_len m (x.own.getD g.toNat []) (fun p hp => by have := h4 p hp; omega)
      show (wordsL m (x.own.getD g.toNat [])).length ≤ 1048576
      omega
  · simp
theorem c_spec_WordsOf (x : PolM) (hs : x.small) (m : List Int) (hm : m.length ≤ 1048576) (g : Int) : FnOK Try.prog 24 [polLV x, .d (ints m), di g] (.r (irsR (wordsOf x m g))) := by
  have c1 := c_spec_l6Asked x hs g
  have c2 := c_spec_l7Whole m hm
  have ow := @own_row x g
  have wl := @whole_len m
  obtain ⟨r, hr⟩ : ∃ r, r = wordsOf x m g := ⟨_, rfl⟩
  rw [← hr]
  unfold wordsOf at hr
  generalize askedG x g = e at *
  refine fn_of lv24 Try.func24 rfl rfl (by kernel_rfl) rfl ?_
  refine .inl ⟨_, _, rfl, c1, rfl, ?_⟩
  refine bsplit_intro (fun h => ?_) (fun h => ?_)
  · rw [if_neg (by simpa using h)] at hr
    subst hr
    exact ⟨⟨rfl, ⟨rfl, rfl⟩, trivial⟩, rfl⟩
  have h : e = 0 := by simpa using h
  rw [if_pos h] at hr
  obtain ⟨q1, q2, q3, q4⟩ := ow h
  refine .inl ⟨_, _, rfl, c2, rfl, ?_⟩
  refine bsplit_intro (fun h2 => ?_) (fun h2 => ?_)
  · rw [show (!wholeB m) = true from h2] at hr
    have hr : r = (1, []) := hr
    subst hr
    exact ⟨⟨rfl, ⟨rfl, rfl⟩, trivial⟩, rfl⟩
  rw [show (!wholeB m) = false from h2] at hr
  have hr : r = (0, wordsL m (x.own.getD g.toNat [])) := hr
  have hw := wl (by simpa using h2)
  subst hr
  refine ask_intro ⟨q1, q2, rfl⟩ ?_
  refine .inl ⟨_, _, rfl, c_spec_l7Words m (x.own.getD g.toNat []) hm (by omega) (fun p hp => by have := q4 p hp; omega), rfl, ?_⟩
  exact ⟨⟨rfl, ⟨rfl, rfl, rfl, fun j hj => ⟨rfl, rfl⟩⟩, trivial⟩, rfl⟩
theorem c_impl_WordsOf (x : PolM) (hs : x.small) (m : List Int) (hm : m.length ≤ 1048576) (g : Int) : FnOK Try.prog 26 [polLV x, .d (ints m), di g] (.r (irsR (wordsOf x m g))) := by
  have c1 := c_impl_guestFault x hs g
  have c2 := c_impl_isWhole m hm
  have ow := @own_row x g
  have wl := @whole_len m
  obtain ⟨r, hr⟩ : ∃ r, r = wordsOf x m g := ⟨_, rfl⟩
  rw [← hr]
  unfold wordsOf at hr
  generalize askedG x g = e at *
  refine fn_of lv26 Try.func26 rfl rfl (by kernel_rfl) rfl ?_
  refine .inl ⟨_, _, rfl, c1, rfl, ?_⟩
  refine bsplit_intro (fun h => ?_) (fun h => ?_)
  · rw [if_neg (by simpa using h)] at hr
    subst hr
    exact ⟨⟨rfl, ⟨rfl, rfl⟩, trivial⟩, rfl⟩
  have h : e = 0 := by simpa using h
  rw [if_pos h] at hr
  obtain ⟨q1, q2, q3, q4⟩ := ow h
  refine .inl ⟨_, _, rfl, c2, rfl, ?_⟩
  refine bsplit_intro (fun h2 => ?_) (fun h2 => ?_)
  · rw [show (!wholeB m) = true from h2] at hr
    have hr : r = (1, []) := hr
    subst hr
    exact ⟨⟨rfl, ⟨rfl, rfl⟩, trivial⟩, rfl⟩
  rw [show (!wholeB m) = false from h2] at hr
  have hr : r = (0, wordsL m (x.own.getD g.toNat [])) := hr
  have hw := wl (by simpa using h2)
  subst hr
  refine ask_intro ⟨q1, q2, rfl⟩ ?_
  refine .inl ⟨_, _, rfl, c_impl_pagesOf m (x.own.getD g.toNat []) hm (by omega) (fun p hp => by have := q4 p hp; omega), rfl, ?_⟩
  exact ⟨⟨rfl, ⟨rfl, rfl, rfl, fun j hj => ⟨rfl, rfl⟩⟩, trivial⟩, rfl⟩
end Go.Proofs.Ytojaakpnpdnbhaa.L

/- The law functions over policies answer true. -/
set_option linter.unusedVariables false
set_option linter.unusedSimpArgs false
set_option maxRecDepth 100000
namespace Go.Proofs.Ytojaakpnpdnbhaa.L
open Go.RowKit Go.ChangeShapes Go.WideShapes Go.ChangeAt
theorem reads_owns : ReadsT Try.prog 22 1 (List (List Int)) (fun l => [owns l]) (fun l => l.length * 24 ≤ reachBytes ∧ ∀ x ∈ l, okInts x) := ReadsT.slice reads_ints Try.underlying22 (by kernel_rfl) (by decide) [] (by kernel_rfl)
theorem reads_Lane : ReadsT Try.prog 171 5 LaneM laneD (fun p => ok64 p.frm ∧ ok64 p.to ∧ ok64 p.page ∧ ok64 p.af ∧ ok64 p.at_) :=
  (ReadsT.struct (ok := _) Try.underlying171 (by kernel_rfl) (ReadsL.cons reads_int64 (.cons reads_int64 (.cons reads_int64 (.cons reads_int64 (.cons reads_int64 (.nil 5))))))).map (fun m => ⟨m.1, m.2.1, m.2.2.1, m.2.2.2.1, m.2.2.2.2.1⟩) (fun m h => ⟨⟨h.1, h.2.1, h.2.2.1, h.2.2.2.1, h.2.2.2.2.1⟩, rfl⟩)
theorem reads_lanes : ReadsT Try.prog 23 1 (List LaneM) (fun l => [lanes l]) (fun l => l.length * 40 ≤ reachBytes ∧ ∀ p ∈ l, ok64 p.frm ∧ ok64 p.to ∧ ok64 p.page ∧ ok64 p.af ∧ ok64 p.at_) := ReadsT.slice reads_Lane Try.underlying23 (by kernel_rfl) (by decide) ⟨0, 0, 0, 0, 0⟩ (by kernel_rfl)
theorem reads_Bell : ReadsT Try.prog 175 2 BellM bellD (fun p => ok64 p.frm ∧ ok64 p.to) :=
  (ReadsT.struct (ok := _) Try.underlying175 (by kernel_rfl) (ReadsL.cons reads_int64 (.cons reads_int64 (.nil 2)))).map (fun m => ⟨m.1, m.2.1⟩) (fun m h => ⟨⟨h.1, h.2.1⟩, rfl⟩)
theorem reads_bells : ReadsT Try.prog 24 1 (List BellM) (fun l => [bells l]) (fun l => l.length * 16 ≤ reachBytes ∧ ∀ p ∈ l, ok64 p.frm ∧ ok64 p.to) := ReadsT.slice reads_Bell Try.underlying24 (by kernel_rfl) (by decide) ⟨0, 0⟩ (by kernel_rfl)
theorem reads_Slot : ReadsT Try.prog 179 2 SlotM slotD (fun p => ok64 p.guest ∧ ok64 p.steps) :=
  (ReadsT.struct (ok := _) Try.underlying179 (by kernel_rfl) (ReadsL.cons reads_int64 (.cons reads_int64 (.nil 2)))).map (fun m => ⟨m.1, m.2.1⟩) (fun m h => ⟨⟨h.1, h.2.1⟩, rfl⟩)
theorem reads_slots : ReadsT Try.prog 25 1 (List SlotM) (fun l => [slots l]) (fun l => l.length * 16 ≤ reachBytes ∧ ∀ p ∈ l, ok64 p.guest ∧ ok64 p.steps) := ReadsT.slice reads_Slot Try.underlying25 (by kernel_rfl) (by decide) ⟨0, 0⟩ (by kernel_rfl)
structure PolM.ok (x : PolM) : Prop where
  own : x.own.length * 24 ≤ reachBytes ∧ ∀ r ∈ x.own, okInts r
  lns : x.lns.length * 40 ≤ reachBytes ∧ ∀ p ∈ x.lns, ok64 p.frm ∧ ok64 p.to ∧ ok64 p.page ∧ ok64 p.af ∧ ok64 p.at_
  bls : x.bls.length * 16 ≤ reachBytes ∧ ∀ p ∈ x.bls, ok64 p.frm ∧ ok64 p.to
  pln : x.pln.length * 16 ≤ reachBytes ∧ ∀ p ∈ x.pln, ok64 p.guest ∧ ok64 p.steps
theorem PolM.ok.small {x : PolM} (h : x.ok) : x.small := by
  have e := reach_eq
  have a := h.own.1
  have b := h.lns.1
  have c := h.bls.1
  have d := h.pln.1
  refine ⟨by omega, fun i hi => ?_, by omega, by omega, by omega⟩
  have := (h.own.2 (x.own.getD i []) (by rw [getD_at _ hi]; exact List.getElem_mem hi)).1
  omega
theorem reads_Policy : ReadsT Try.prog 27 4 PolM polD PolM.ok :=
  (ReadsT.struct (ok := _) Try.underlying27 (by kernel_rfl) (ReadsL.cons reads_owns (.cons reads_lanes (.cons reads_bells (.cons reads_slots (.nil 4)))))).map (fun m => ⟨m.1, m.2.1, m.2.2.1, m.2.2.2.1⟩) (fun m h => ⟨⟨h.1, h.2.1, h.2.2.1, h.2.2.2.1⟩, rfl⟩)
theorem szP_of {x : PolM} {q : Int} (h : decide (szP x q < 0) = false) : (x.size : Int) ≤ q := by
  have h := of_decide_eq_false h
  unfold szP at h
  split at h <;> omega
end Go.Proofs.Ytojaakpnpdnbhaa.L

/- The law function over a guest's words answers true. -/
set_option linter.unusedVariables false
set_option linter.unusedSimpArgs false
set_option maxRecDepth 100000
namespace Go.Proofs.Ytojaakpnpdnbhaa.L
open Go.RowKit
theorem ints_b (l : List Int) (k : Int) (hf : l.length ≤ 1048576) (h1 : 0 ≤ k) (h2 : k ≤ 1099511627776) : 0 ≤ k + l.length ∧ k + l.length ≤ k + 1048576 := by omega
set_option maxHeartbeats 1600000 in
theorem c_laws_FnExactWordsOf (x0 : PolM) (x1 : List Int) (x2 : Int) (ho_x0 : x0.ok) (ho_x1 : okInts x1) (ho_x2 : ok64 x2) : FnOK Try.prog 4 [polLV x0, .d (ints x1), di x2] (rb true) := by
  have hs_x0 := ho_x0.small
  have hl8_x1 : x1.length * 8 ≤ 140737488355328 := by have := ho_x1.1; rw [reach_eq] at this; omega
  refine fn_of lv4 Try.func4 rfl rfl (by kernel_rfl) rfl ?_
  refine bsplit_intro (fun h => ?_) (fun h => ?_)
  · exact ⟨⟨rfl, trivial⟩, rfl⟩
  have hf_x1 : x1.length ≤ 1048576 := by simp at h; omega
  refine .inl ⟨_, _, rfl, c_laws_szPolicy x0 hs_x0 (1048576) (by omega) (by omega), rfl, ?_⟩
  refine bsplit_intro (fun h => ?_) (fun h => ?_)
  · exact ⟨⟨rfl, trivial⟩, rfl⟩
  have hf_x0 : (x0.size : Int) ≤ 1048576 := szP_of h
  have cs := c_spec_WordsOf x0 hs_x0 x1 hf_x1 x2
  have ci := c_impl_WordsOf x0 hs_x0 x1 hf_x1 x2
  have hf := wordsOf_few x0 x1 x2
  obtain ⟨p, hp⟩ : ∃ p, p = wordsOf x0 x1 x2 := ⟨_, rfl⟩
  rw [← hp] at cs ci hf
  have hkp : 0 ≤ 1 + (p.2.length : Int) := by omega
  have hk : ¬ 1 + (p.2.length : Int) < 0 := by omega
  have hb0 := polK_b x0 (1) hf_x0 (by omega) (by omega)
  have hb1 := ints_b x1 (polK x0 (1)) hf_x1 hb0.1 (by have := hb0.2; omega)
  refine .inl ⟨_, _, rfl, c_laws_toPolicy x0 hs_x0, rfl, ?_⟩
  repeat' (first | refine bsplit_true ?_ | refine bsplit_false ?_ | refine chk_intro (by kernel_rfl) ?_ | refine bsplit_of_false (by simp; done) ?_)
  refine .inl ⟨_, _, rfl, c_laws_toInt64S x1 hl8_x1, rfl, ?_⟩
  repeat' (first | refine bsplit_true ?_ | refine bsplit_false ?_ | refine chk_intro (by kernel_rfl) ?_ | refine bsplit_of_false (by simp; done) ?_)
  refine .inl ⟨_, _, rfl, cs, rfl, ?_⟩
  repeat' (first | refine bsplit_true ?_ | refine bsplit_false ?_ | refine chk_intro (by kernel_rfl) ?_ | refine bsplit_of_false (by simp; done) ?_)
  refine .inl ⟨_, _, rfl, c_laws_toPolicy x0 hs_x0, rfl, ?_⟩
  repeat' (first | refine bsplit_true ?_ | refine bsplit_false ?_ | refine chk_intro (by kernel_rfl) ?_ | refine bsplit_of_false (by simp; done) ?_)
  refine .inl ⟨_, _, rfl, c_laws_toInt64S x1 hl8_x1, rfl, ?_⟩
  repeat' (first | refine bsplit_true ?_ | refine bsplit_false ?_ | refine chk_intro (by kernel_rfl) ?_ | refine bsplit_of_false (by simp; done) ?_)
  refine .inl ⟨_, _, rfl, ci, rfl, ?_⟩
  repeat' (first | refine bsplit_true ?_ | refine bsplit_false ?_ | refine chk_intro (by kernel_rfl) ?_ | refine bsplit_of_false (by simp; done) ?_)
  refine .inl ⟨_, _, rfl, c_laws_eqIntsResult p p (by omega), rfl, ?_⟩
  repeat' (first | refine bsplit_true ?_ | refine bsplit_false ?_ | refine chk_intro (by kernel_rfl) ?_ | refine bsplit_of_false (by simp; done) ?_)
  refine .inl ⟨_, _, rfl, c_laws_toPolicy x0 hs_x0, rfl, ?_⟩
  repeat' (first | refine bsplit_true ?_ | refine bsplit_false ?_ | refine chk_intro (by kernel_rfl) ?_ | refine bsplit_of_false (by simp; done) ?_)
  refine .inl ⟨_, _, rfl, c_laws_eqPolicy x0 x0 hs_x0, rfl, ?_⟩
  repeat' (first | refine bsplit_true ?_ | refine bsplit_false ?_ | refine chk_intro (by kernel_rfl) ?_ | refine bsplit_of_false (by simp; done) ?_)
  refine .inl ⟨_, _, rfl, c_laws_toInt64S x1 hl8_x1, rfl, ?_⟩
  repeat' (first | refine bsplit_true ?_ | refine bsplit_false ?_ | refine chk_intro (by kernel_rfl) ?_ | refine bsplit_of_false (by simp; done) ?_)
  refine .inl ⟨_, _, rfl, c_laws_eqInt64S x1 x1 (by omega), rfl, ?_⟩
  repeat' (first | refine bsplit_true ?_ | refine bsplit_false ?_ | refine chk_intro (by kernel_rfl) ?_ | refine bsplit_of_false (by simp; done) ?_)
  refine .inr ⟨rfl, use_mut ⟨_, _, _, _, _, _, rfl, rfl, c_laws_markPolicy x0 (1) hf_x0 (by omega) (by omega), rfl, ?_⟩⟩
  repeat' (first | refine bsplit_true ?_ | refine bsplit_false ?_ | refine chk_intro (by kernel_rfl) ?_)
  refine .inr ⟨rfl, use_mut ⟨_, _, _, _, _, _, rfl, rfl, c_laws_markInt64S x1 (polK x0 (1)) (by omega) hb0.1 (by have := hb0.2; omega), rfl, ?_⟩⟩
  repeat' (first | refine bsplit_true ?_ | refine bsplit_false ?_ | refine chk_intro (by kernel_rfl) ?_)
  try refine bsplit_of_false (decide_eq_false (show ¬ ((polK x0 (1)) + (x1.length : Int)) < 0 by have := hb1.1; omega)) ?_
  repeat' (first | refine bsplit_true ?_ | refine bsplit_false ?_ | refine chk_intro (by kernel_rfl) ?_ | refine bsplit_of_false (by simp; done) ?_)
  refine .inl ⟨_, _, rfl, c_laws_eqIntsResult p p (by omega), rfl, ?_⟩
  repeat' (first | refine bsplit_true ?_ | refine bsplit_false ?_ | refine chk_intro (by kernel_rfl) ?_ | refine bsplit_of_false (by simp; done) ?_)
  refine .inr ⟨rfl, use_mut ⟨_, _, _, _, _, _, rfl, rfl, c_laws_markIntsResult p 1 (by omega) (by omega) (by omega), rfl, ?_⟩⟩
  repeat' (first | refine bsplit_true ?_ | refine bsplit_false ?_ | refine chk_intro (by kernel_rfl) ?_)
  refine .inl ⟨_, _, rfl, c_laws_heldIntsResult p 1 (by omega) (by omega) (by omega), rfl, ?_⟩
  repeat' (first | refine bsplit_true ?_ | refine bsplit_false ?_ | refine chk_intro (by kernel_rfl) ?_)
  try refine bsplit_of_false (decide_eq_false hk) ?_
  repeat' (first | refine bsplit_true ?_ | refine bsplit_false ?_ | refine chk_intro (by kernel_rfl) ?_ | refine bsplit_of_false (by simp; done) ?_)
  refine .inl ⟨_, _, rfl, c_laws_toPolicy x0 hs_x0, rfl, ?_⟩
  repeat' (first | refine bsplit_true ?_ | refine bsplit_false ?_ | refine chk_intro (by kernel_rfl) ?_ | refine bsplit_of_false (by simp; done) ?_)
  refine .inl ⟨_, _, rfl, c_laws_toInt64S x1 hl8_x1, rfl, ?_⟩
  repeat' (first | refine bsplit_true ?_ | refine bsplit_false ?_ | refine chk_intro (by kernel_rfl) ?_ | refine bsplit_of_false (by simp; done) ?_)
  refine .inl ⟨_, _, rfl, ci, rfl, ?_⟩
  repeat' (first | refine bsplit_true ?_ | refine bsplit_false ?_ | refine chk_intro (by kernel_rfl) ?_ | refine bsplit_of_false (by simp; done) ?_)
  refine .inl ⟨_, _, rfl, c_laws_eqIntsResult p p (by omega), rfl, ?_⟩
  repeat' (first | refine bsplit_true ?_ | refine bsplit_false ?_ | refine chk_intro (by kernel_rfl) ?_ | refine bsplit_of_false (by simp; done) ?_)
  refine .inl ⟨_, _, rfl, c_laws_heldIntsResult p 1 (by omega) (by omega) (by omega), rfl, ?_⟩
  repeat' (first | refine bsplit_true ?_ | refine bsplit_false ?_ | refine chk_intro (by kernel_rfl) ?_)
  try refine bsplit_of_false (decide_eq_false hk) ?_
  repeat' (first | refine bsplit_true ?_ | refine bsplit_false ?_ | refine chk_intro (by kernel_rfl) ?_ | refine bsplit_of_false (by simp; done) ?_)
  exact ⟨⟨rfl, trivial⟩, rfl⟩

end Go.Proofs.Ytojaakpnpdnbhaa.L

/- The law FnExactWordsOf answers true at every input that its statement lets in. -/
set_option linter.unusedVariables false
set_option maxRecDepth 100000
namespace Go.Proofs.Ytojaakpnpdnbhaa.L.FnExactWordsOf
open Go.RowKit Go.ChangeShapes Go.WideShapes Go.ChangeAt
theorem lifted (os : Os) (started : os.Started) (H : Type) (enc : TypeId × Value → H) :
    ReturnsInHanded {} Try.checked os 4 .any (Rows.fnExactWordsOfSpec.pre6 enc Try.prog Try.f4 Rows.fnExactWordsOfRow.domain false) (Rows.fnExactWordsOfSpec.post enc Try.prog Try.f4 false true false false) := by
  refine returnsInHanded_of_change_sized (C := Try.checked) own started (by kernel_rfl) Try.func4
    (ChangeSpec.witness6 (enc := enc) (C := Try.checked) false ⟨#[], #[.agg #[.slice none 0 0, .slice none 0 0, .slice none 0 0, .slice none 0 0], .slice none 0 0, .int .i64 0], []⟩ 8 (by kernel_rfl) (by kernel_rfl) (by kernel_rfl) (by kernel_rfl)) ?_
  intro W base args ds gs before hval0 hW hcnd hsz0 _
  have hsz : (DataW.weightsEach Try.prog (Try.f4.params.toList ++ Rows.fnExactWordsOfSpec.plain.varTypes Try.prog) (ds ++ gs)).all (· ≤ reachBytes) = true := hsz0
  have hval : ∀ (j : Nat) t v, Try.f4.params[j]? = some t → args[j]? = some v → Value.okWide Try.prog W .any base t v := hval0
  have hW' := hW
  obtain ⟨p, q, hA0, hV, rfl, hfz, hnd⟩ := hW
  have hA : DataW.TrodAll enc Try.prog W 0 (fun _ => true) true Try.f4.params.toList args.toList ds p := hA0
  rw [Try.params4] at hA hval hsz
  obtain ⟨v0, vs0, d0, ds0, p0, q0, hargs, rfl, rfl, h0, r0⟩ := trodAll_cons hA
  obtain ⟨v1, vs1, d1, ds1, p1, q1, rfl, rfl, rfl, h1, r1⟩ := trodAll_cons r0
  obtain ⟨v2, vs2, d2, ds2, p2, q2, rfl, rfl, rfl, h2, r2⟩ := trodAll_cons r1
  obtain ⟨rfl, rfl, rfl⟩ := trodAll_nil r2
  obtain rfl : args = #[v0, v1, v2] := by cases args; simp_all
  obtain ⟨rfl, rfl⟩ := trodVars_none hV
  have hsm : ∀ k ∈ DataW.weightsEach Try.prog ([27, 30, 2] ++ Rows.fnExactWordsOfSpec.plain.varTypes Try.prog) ([d0, d1, d2] ++ []), k ≤ reachBytes := fun k hk => by simpa using List.all_eq_true.1 hsz k hk
  have k0 := h0
  have lt0 : ∀ x ∈ p0, x.block < W.heap.size := by obtain ⟨m, hm⟩ := k0; exact DataW.trod_lt m _ _ _ hm
  obtain ⟨m0, hm0, hvr0⟩ := reads_Policy.agg Try.underlying27 (hval 0 27 v0 rfl rfl) h0 (fun k hk => hsm k (DataW.weights_mem_each (j := 0) rfl rfl k hk))
  have k1 := h1
  have lt1 : ∀ x ∈ p1, x.block < W.heap.size := by obtain ⟨m, hm⟩ := k1; exact DataW.trod_lt m _ _ _ hm
  have c1 : v1.cells = #[v1] := by have z := okWide_slice Try.underlying30 (hval 1 30 v1 rfl rfl); (first | (obtain ⟨_, rfl⟩ := z; rfl) | (obtain ⟨_, _, _, rfl⟩ := z; rfl))
  obtain ⟨m1, hm1, hvr1⟩ := reads_ints.one c1 h1 (fun k hk => hsm k (DataW.weights_mem_each (j := 1) rfl rfl k hk))
  have k2 := h2
  have lt2 : ∀ x ∈ p2, x.block < W.heap.size := by obtain ⟨m, hm⟩ := k2; exact DataW.trod_lt m _ _ _ hm
  have c2 : v2.cells = #[v2] := by have z := okWide_int Try.underlying2 (hval 2 2 v2 rfl rfl); (first | (obtain ⟨_, rfl⟩ := z; rfl) | (obtain ⟨_, _, _, rfl⟩ := z; rfl))
  obtain ⟨m2, hm2, hvr2⟩ := reads_int64.one c2 h2 (fun k hk => hsm k (DataW.weights_mem_each (j := 2) rfl rfl k hk))
  refine ((c_laws_FnExactWordsOf m0 m1 m2 hm0 hm1 hm2).calls W (Mem W) [v0, v1, v2] (fun b hb => hb) rfl (fun j hj => ?_)).mono fun e W' ⟨v, he, bel, hrr⟩ => ?_
  · match j, hj with
    | 0, _ => exact hvr0
    | 1, _ => exact hvr1
    | 2, _ => exact hvr2
    | j + 3, hj => exact absurd hj (by simp)
  · obtain ⟨us, J, hl, rfl, hJ, hok, _, _⟩ := hrr.ex
    have h1 := hok 0 _ rfl
    have h2 : RV.val us (rb true) = .bool true := h1
    rw [h2] at he
    subst he
    exact ⟨_, rfl, _, _, _, [], _, [], hW', trodAll_mk1 (shut_bool Try.underlying4 _), (trodAll_cons_mk (Below.trod laidOut (by kernel_rfl) (of_decide_eq_true (by kernel_rfl)) k0 bel lt0) (trodAll_cons_mk (Below.trod laidOut (by kernel_rfl) (of_decide_eq_true (by kernel_rfl)) k1 bel lt1) (trodAll_cons_mk (Below.trod laidOut (by kernel_rfl) (of_decide_eq_true (by kernel_rfl)) k2 bel lt2) trodAll_mk0))), rfl, bel.frame _, fun h => by cases h⟩
theorem over : Rows.fnExactWordsOfRow.holds Try.pinned (OpenSpec.ofChange Rows.fnExactWordsOfSpec) :=
  OpenClaim.holds_of_wide 4 Try.f4 rfl rfl rfl rfl rfl rfl rfl ⟨rfl, rfl, rfl, rfl, rfl⟩ rfl rfl rfl rfl rfl (by kernel_rfl) Try.func4 (by kernel_rfl)
    (of_decide_eq_true (by kernel_rfl)) (by unfold Func.isWrapper; first | (rw [if_pos (by decide +kernel)]; kernel_rfl) | (rw [if_neg (by decide +kernel)]; exact ⟨rfl, rfl⟩))
    (fun os started H enc _ => lifted os started H enc)
end Go.Proofs.Ytojaakpnpdnbhaa.L.FnExactWordsOf
namespace Go.Proofs.Ytojaakpnpdnbhaa
theorem fnExactWordsOf_holds : Rows.FnExactWordsOfSaid := L.FnExactWordsOf.over
#print axioms fnExactWordsOf_holds
end Go.Proofs.Ytojaakpnpdnbhaa
