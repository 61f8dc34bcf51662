/- The law FnExactSoloOf answers true at every input that its statement lets in. -/
import Derived.Test.YtojaakpnpdnbhaaGreatMc
import Derived.Test.YtojaakpnpdnbhaaGreatRows
import Derived.Test.YtojaakpnpdnbhaaGreatZ1
/- The pages of a guest: contracts. -/
set_option linter.unusedVariables false
set_option linter.unusedSimpArgs false
set_option maxRecDepth 100000
namespace Go.Proofs.YtojaakpnpdnbhaaGreat.L
open Go.RowKit
abbrev du (n : Int) : LV := .d (.v (.int .u64 n))
theorem c_bits_Mul64_18 : FnOK Tryz.prog 101 [du 1, du 8] (.tup [.one (.v (.int .u64 0)), .one (.v (.int .u64 8))]) := by
  refine fn_of lv101 Tryz.func101 rfl rfl (by kernel_rfl) rfl ?_
  repeat' (first | refine ask_intro (by decide) ?_ | refine bsplit_true ?_ | refine bsplit_false ?_)
  exact ⟨⟨rfl, rfl, trivial⟩, rfl⟩
theorem c_bits_Mul_18 : FnOK Tryz.prog 94 [du 1, du 8] (.tup [.one (.v (.int .u64 0)), .one (.v (.int .u64 8))]) := by
  refine fn_of lv94 Tryz.func94 rfl rfl (by kernel_rfl) rfl ?_
  repeat' (first | refine ask_intro (by decide) ?_ | refine bsplit_true ?_ | refine bsplit_false ?_)
  refine .inl ⟨_, _, rfl, c_bits_Mul64_18, rfl, ?_⟩
  exact ⟨⟨rfl, rfl, trivial⟩, rfl⟩
/-- so many of a page, what is behind them 0 -/
abbrev repF (p : PageM) (n : Nat) (i : Nat) : List D := if i < n then pageD p else [.v (.int .i64 0), .v (.int .i64 0)]
theorem c_slices_Repeat_Page (p : PageM) (f : Nat → List D) (hf : f 0 = pageD p) : FnOK Tryz.prog 80 [.d (.l 1 f), di 8] (.r (.one (.own 83 2 8 (fun _ => pageD p)))) := by
  refine fn_of lv80 Tryz.func80 rfl rfl (by kernel_rfl) rfl ?_
  repeat' (first | refine bsplit_true ?_ | refine bsplit_false ?_)
  refine .inl ⟨_, _, rfl, c_bits_Mul_18, rfl, ?_⟩
  repeat' (first | refine bsplit_true ?_ | refine bsplit_false ?_)
  refine ask_intro ⟨rfl, by decide, by decide, by decide⟩ ?_
  refine ask_intro (fun i hi => ?_) ?_
  · obtain rfl : i = 0 := by have h2 : i < 1 := hi; omega
    rw [hf]
    rfl
  refine ⟨{ i : Nat // 1 ≤ i ∧ i ≤ 8 }, fun i => ⟨frL [(7, .row 96), (8, di i.1)], hpL [(96, .row 83 2 8 (repF p i.1))], 97, 0⟩, fun i => 8 - i.1, ⟨1, by omega, by omega⟩,
    le_of [(96, 16448)] rfl rfl rfl rfl (tellHp_row rfl rfl rfl (fun j hj => ?_) tellHp_nil) (tellFr_row rfl rfl (tellFr_v rfl rfl trivial)), ?_⟩
  · show (if 0 ≤ j ∧ j < 0 + 1 then f (j - 0) else [.v (.int .i64 0), .v (.int .i64 0)]) = repF p 1 j
    by_cases h : j < 1
    · obtain rfl : j = 0 := by omega
      rw [if_pos (by omega)]
      simpa [repF] using hf
    · rw [if_neg (by omega)]
      simp only [repF, h, if_false]
  rintro ⟨i, h1, h2⟩
  by_cases h : i < 8
  · have e1 : (0 + (i : Int).toNat) - (0 + (0 : Int).toNat) = i := by simp
    have e2 : (0 + ((8 : Nat) : Int).toNat) - (0 + (i : Int).toNat) = 8 - i := by simp
    have hm : 1 ≤ Nat.min i (8 - i) ∧ Nat.min i (8 - i) ≤ 8 - i := ⟨Nat.le_min.2 ⟨h1, by omega⟩, Nat.min_le_right _ _⟩
    have hm2 : Nat.min i (8 - i) ≤ i := Nat.min_le_left _ _
    generalize hM : Nat.min i (8 - i) = M at hm hm2
    refine bsplit_of_true (decide_eq_true (show (i : Int) < ((8 : Nat) : Int) by omega)) ?_
    refine ask_intro ⟨by omega, by show (i : Int) ≤ ((8 : Nat) : Int); omega, by show ((0 : Nat) : Int) + ((8 : Nat) : Int) ≤ ((8 : Nat) : Int); omega, .inr rfl⟩ ?_
    refine ask_intro ⟨by omega, by omega, by show ((0 : Nat) : Int) + (i : Int) ≤ ((8 : Nat) : Int); omega, .inr rfl⟩ ?_
    refine ask_intro (fun j hj => ?_) ?_
    · show (repF p i (0 + (0 : Int).toNat + j)).length = 2
      simp only [repF]; split <;> rfl
    refine chk_intro (by kernel_rfl) ?_
    refine ⟨⟨i + M, by omega, by omega⟩, le_of [(96, 96)] rfl rfl rfl rfl (tellHp_row rfl rfl rfl (fun j hj => ?_) tellHp_nil) (tellFr_row rfl rfl (tellFr_v rfl (congrArg (Value.int .i64) ?_) trivial)), by show 8 - (i + M) < 8 - i; omega⟩
    · show (if 0 + (i : Int).toNat ≤ j ∧ j < 0 + (i : Int).toNat + Nat.min ((0 + (i : Int).toNat) - (0 + (0 : Int).toNat)) ((0 + ((8 : Nat) : Int).toNat) - (0 + (i : Int).toNat)) then repF p i (0 + (0 : Int).toNat + (j - (0 + (i : Int).toNat))) else repF p i j) = repF p (i + M) j
      rw [e1, e2, hM]
      simp only [Int.toNat_natCast, Nat.zero_add, Int.toNat_zero, repF]
      by_cases c1 : i ≤ j ∧ j < i + M
      · rw [if_pos c1, if_pos (by omega), if_pos (by omega)]
      · rw [if_neg c1]
        by_cases c2 : j < i
        · rw [if_pos c2, if_pos (by omega)]
        · rw [if_neg c2, if_neg (by omega)]
    · show IntKind.i64.wrap ((i : Int) + ((Nat.min ((0 + (i : Int).toNat) - (0 + (0 : Int).toNat)) ((0 + ((8 : Nat) : Int).toNat) - (0 + (i : Int).toNat)) : Nat) : Int)) = ((i + M : Nat) : Int)
      rw [e1, e2, hM]
      exact (wrap_i64 _ (by omega) (by omega)).trans (by omega)
  · refine bsplit_of_false (decide_eq_false (show ¬ (i : Int) < ((8 : Nat) : Int) by omega)) ?_
    obtain rfl : i = 8 := by omega
    refine ⟨⟨⟨rfl, rfl, rfl, fun j hj => ⟨?_, rfl⟩⟩, trivial⟩, rfl⟩
    show repF p 8 j = pageD p
    rw [repF, if_pos hj]
end Go.Proofs.YtojaakpnpdnbhaaGreat.L

/- The pages of a guest, as the host has them: contracts. -/
set_option linter.unusedVariables false
set_option linter.unusedSimpArgs false
set_option maxRecDepth 100000
namespace Go.Proofs.YtojaakpnpdnbhaaGreat.L
open Go.RowKit
def laneSet (g : Int) (out : List PageM) (l : LaneM) : List PageM := if l.to = g then (if l.frm = g then out.set l.af.toNat ⟨l.page, 3⟩ else out).set l.at_.toNat ⟨l.page, 1⟩ else if l.frm = g then out.set l.af.toNat ⟨l.page, 3⟩ else out
theorem laneSet_len (g : Int) (out : List PageM) (l : LaneM) : (laneSet g out l).length = out.length := by
  unfold laneSet
  split <;> split <;> simp
def ownS (l : List Int) (k : Nat) : List PageM := (l.take k).map (fun p => ⟨p, 7⟩) ++ List.replicate (8 - k) ⟨-1, 0⟩
theorem ownS_len (l : List Int) (k : Nat) (hk : k ≤ l.length) (h8 : k ≤ 8) : (ownS l k).length = 8 := by simp [ownS]; omega
theorem ownS_step (l : List Int) (k : Nat) (hk : k < l.length) (h8 : k < 8) : (ownS l k).set k ⟨l.getD k 0, 7⟩ = ownS l (k + 1) := by
  have hl : ((l.take k).map (fun p => (⟨p, 7⟩ : PageM))).length = k := by simp; omega
  have h8' : 8 - k = (8 - (k + 1)) + 1 := by omega
  unfold ownS
  rw [List.set_append_right _ _ (by omega), hl, Nat.sub_self, h8', List.replicate_succ, List.set_cons_zero, take_snoc 0 l k hk, List.map_append, List.append_assoc]
  rfl
def pagesP (x : PolM) (g : Int) : List PageM := x.lns.foldl (laneSet g) (ownS (x.own.getD g.toNat []) (x.own.getD g.toNat []).length)
theorem fold_len (g : Int) : ∀ (l : List LaneM) (S : List PageM), (l.foldl (laneSet g) S).length = S.length
  | [], S => rfl
  | m :: l, S => by rw [List.foldl_cons, fold_len g l, laneSet_len]
theorem pagesP_len {x : PolM} {g : Int} (h : (x.own.getD g.toNat []).length ≤ 5) : (pagesP x g).length = 8 := by
  unfold pagesP
  rw [fold_len, ownS_len _ _ (Nat.le_refl _) (by omega)]
theorem set_pagesF (S : List PageM) (i : Nat) (p : PageM) (hi : i < S.length) (j : Nat) : (if j = i then splice (pagesF S j) 0 [.v (.int .i64 p.to), .v (.int .i64 p.kinds)] else pagesF S j) = pagesF (S.set i p) j := by
  by_cases h : j = i
  · subst h
    rw [if_pos rfl]
    have e : (S.set j p).getD j ⟨0, 0⟩ = p := by simp [List.getD, hi]
    simp only [pagesF, e]
    rfl
  · rw [if_neg h]
    have e : (S.set i p).getD j ⟨0, 0⟩ = S.getD j ⟨0, 0⟩ := by simp [List.getD, List.getElem?_set_ne (Ne.symm h)]
    simp only [pagesF, e]
theorem none_get {r : List Int} (j : Nat) (hj : j < 8) : pagesF (ownS r 0) j = pageD ⟨-1, 0⟩ := by
  have e : (ownS r 0).getD j ⟨0, 0⟩ = ⟨-1, 0⟩ := by
    simp only [ownS, List.take_zero, List.map_nil, List.nil_append, Nat.sub_zero]
    simp only [List.getD, List.getElem?_replicate, if_pos hj, Option.getD_some]
  simp only [pagesF, e]
/-- the places of lanes in a policy that is right -/
def LnsOK (x : PolM) : Prop := ∀ m ∈ x.lns, (5 ≤ m.af ∧ m.af ≤ 6) ∧ (5 ≤ m.at_ ∧ m.at_ ≤ 6) ∧ (0 ≤ m.page ∧ m.page ≤ 23)
theorem lanesBad_ok {own : List (List Int)} : ∀ {l ahead : List LaneM}, lanesBad own ahead l = 0 → ∀ m ∈ l, (5 ≤ m.af ∧ m.af ≤ 6) ∧ (5 ≤ m.at_ ∧ m.at_ ≤ 6) ∧ (0 ≤ m.page ∧ m.page ≤ 23)
  | [], _, _, m, hm => by simp at hm
  | q :: l, ahead, h, m, hm => by
    simp only [lanesBad] at h
    have hb : laneBad own q ahead = 0 := by
      split at h
      · assumption
      · rename_i e; exact absurd h e
    rw [if_pos hb] at h
    rcases List.mem_cons.1 hm with rfl | hm
    · unfold laneBad at hb
      split at hb
      · cases h1 : inR m.page 0 23 with
        | false => rw [h1] at hb; simp at hb
        | true =>
          cases h2 : inR m.af 5 6 with
          | false => rw [h1, h2] at hb; simp at hb
          | true =>
            cases h3 : inR m.at_ 5 6 with
            | false => rw [h1, h2, h3] at hb; simp at hb
            | true => exact ⟨inR_iff.1 h2, inR_iff.1 h3, inR_iff.1 h1⟩
      · rename_i e; exact absurd hb e
    · exact lanesBad_ok h m hm
theorem lns_ok {x : PolM} (h : polFault x = 0) : LnsOK x := fun m hm => lanesBad_ok (pol_lanes h) m hm
set_option maxHeartbeats 1600000 in
theorem c_impl_Policy_pagesFor (x : PolM) (hs : x.small) (g : Int) (hg : 0 ≤ g) (hg2 : g < x.own.length) (h5 : (x.own.getD g.toNat []).length ≤ 5) (hl : LnsOK x) : FnOK Tryz.prog 55 [polP x, di g] (.r (.one (oPages (pagesP x g)))) := by
  have hsl := hs.lns
  have hV8 := pagesP_len h5
  obtain ⟨V, hV⟩ : ∃ V, V = pagesP x g := ⟨_, rfl⟩
  rw [← hV] at hV8 ⊢
  unfold pagesP at hV
  refine fn_of lv55 Tryz.func55 rfl rfl (by kernel_rfl) rfl ?_
  refine .inl ⟨_, _, rfl, c_impl_nowhere, rfl, ?_⟩
  refine .inl ⟨_, _, rfl, c_slices_Repeat_Page ⟨-1, 0⟩ _ rfl, rfl, ?_⟩
  refine ask_intro ⟨hg, hg2, rfl⟩ ?_
  refine ⟨{ i : Nat // i ≤ (x.own.getD g.toNat []).length }, fun i => ⟨frL [(0, polP x), (1, di g), (5, .row 96), (19, .d (ints (x.own.getD g.toNat []))), (20, di (x.own.getD g.toNat []).length), (21, di i.1)], hpL [(96, .row 83 2 8 (pagesF (ownS (x.own.getD g.toNat []) i.1)))], 97, 0⟩, fun i => (x.own.getD g.toNat []).length - i.1, ⟨0, by omega⟩,
    le_of [(96, 4160)] rfl rfl rfl rfl (tellHp_row rfl rfl rfl (fun j hj => (none_get j hj).symm) tellHp_nil) (tellFr_x rfl ⟨DLe.refl _, DLe.refl _, DLe.refl _, DLe.refl _, trivial⟩ (tellFr_v rfl rfl (tellFr_row rfl rfl (tellFr_d rfl (DLe.refl _) (tellFr_v rfl rfl (tellFr_v rfl rfl trivial)))))), ?_⟩
  rintro ⟨k, hk⟩
  by_cases hk2 : k < (x.own.getD g.toNat []).length
  · have est := ownS_step (x.own.getD g.toNat []) k hk2 (by omega)
    have esl := ownS_len (x.own.getD g.toNat []) k hk (by omega)
    refine bsplit_of_true (decide_eq_true (show (k : Int) < ((x.own.getD g.toNat []).length : Int) by omega)) ?_
    refine ask_intro ⟨by omega, by show (k : Int) < ((x.own.getD g.toNat []).length : Int); omega, rfl⟩ ?_
    refine ask_intro ⟨by omega, by show (k : Int) < ((8 : Nat) : Int); omega⟩ ?_
    refine ask_intro (by show k < 8; omega) ?_
    exact ⟨⟨k + 1, by omega⟩, le_of [(96, 96)] rfl rfl rfl rfl (tellHp_row rfl rfl rfl (fun j hj => (set_pagesF (ownS (x.own.getD g.toNat []) k) k ⟨(x.own.getD g.toNat []).getD k 0, 7⟩ (by omega) j).trans (by rw [est])) tellHp_nil) (tellFr_x rfl ⟨DLe.refl _, DLe.refl _, DLe.refl _, DLe.refl _, trivial⟩ (tellFr_v rfl rfl (tellFr_row rfl rfl (tellFr_d rfl (DLe.refl _) (tellFr_v rfl rfl (tellFr_v rfl (congrArg (Value.int .i64) (wrap1 hk2 (by omega))) trivial)))))), by show (x.own.getD g.toNat []).length - (k + 1) < (x.own.getD g.toNat []).length - k; omega⟩
  obtain rfl : k = (x.own.getD g.toNat []).length := by omega
  refine bsplit_of_false (decide_eq_false (show ¬ ((x.own.getD g.toNat []).length : Int) < ((x.own.getD g.toNat []).length : Int) by omega)) ?_
  refine ⟨{ p : Nat × List PageM // p.1 ≤ x.lns.length ∧ p.2.length = 8 ∧ V = (x.lns.drop p.1).foldl (laneSet g) p.2 }, fun p => ⟨frL [(1, di g), (5, .row 96), (35, .d (lanes x.lns)), (36, di x.lns.length), (37, di p.1.1)], hpL [(96, .row 83 2 8 (pagesF p.1.2))], 97, 0⟩, fun p => x.lns.length - p.1.1, ⟨(0, ownS (x.own.getD g.toNat []) (x.own.getD g.toNat []).length), by omega, ownS_len _ _ (Nat.le_refl _) (by omega), hV⟩,
    le_of [(96, 96)] rfl rfl rfl rfl (tellHp_row rfl rfl rfl (fun j hj => rfl) tellHp_nil) (tellFr_v rfl rfl (tellFr_row rfl rfl (tellFr_d rfl (DLe.refl _) (tellFr_v rfl rfl (tellFr_v rfl rfl trivial))))), ?_⟩
  rintro ⟨⟨k, S⟩, hk, hS, hall⟩
  simp only at hk hS hall
  by_cases hk2 : k < x.lns.length
  · rw [drop_consG ⟨0, 0, 0, 0, 0⟩ _ _ hk2, List.foldl_cons] at hall
    have hmem : x.lns.getD k ⟨0, 0, 0, 0, 0⟩ ∈ x.lns := by rw [getD_at _ hk2]; exact List.getElem_mem _
    obtain ⟨⟨a1, a2⟩, ⟨a3, a4⟩, _⟩ := hl _ hmem
    have hwr := congrArg (Value.int .i64) (wrap1 hk2 (by omega))
    have hl8 := laneSet_len g S (x.lns.getD k ⟨0, 0, 0, 0, 0⟩)
    have sp : ∀ (S : List PageM) (i : Nat) (p : PageM), S.length = 8 → i < 8 → ∀ j, (if j = i then splice (pagesF S j) 0 [.v (.int .i64 p.to), .v (.int .i64 p.kinds)] else pagesF S j) = pagesF (S.set i p) j := fun S i p h1 h2 j => set_pagesF S i p (by omega) j
    by_cases c1 : (x.lns.getD k ⟨0, 0, 0, 0, 0⟩).frm = g <;> by_cases c2 : (x.lns.getD k ⟨0, 0, 0, 0, 0⟩).to = g
    · have hstep : laneSet g S (x.lns.getD k ⟨0, 0, 0, 0, 0⟩) = (S.set (x.lns.getD k ⟨0, 0, 0, 0, 0⟩).af.toNat ⟨(x.lns.getD k ⟨0, 0, 0, 0, 0⟩).page, 3⟩).set (x.lns.getD k ⟨0, 0, 0, 0, 0⟩).at_.toNat ⟨(x.lns.getD k ⟨0, 0, 0, 0, 0⟩).page, 1⟩ := by unfold laneSet; rw [if_pos c2, if_pos c1]
      rw [hstep] at hall hl8
      have sp2 : ∀ j, (if j = (x.lns.getD k ⟨0, 0, 0, 0, 0⟩).at_.toNat then splice (if j = (x.lns.getD k ⟨0, 0, 0, 0, 0⟩).af.toNat then splice (pagesF S j) 0 [.v (.int .i64 (x.lns.getD k ⟨0, 0, 0, 0, 0⟩).page), .v (.int .i64 3)] else pagesF S j) 0 [.v (.int .i64 (x.lns.getD k ⟨0, 0, 0, 0, 0⟩).page), .v (.int .i64 1)] else if j = (x.lns.getD k ⟨0, 0, 0, 0, 0⟩).af.toNat then splice (pagesF S j) 0 [.v (.int .i64 (x.lns.getD k ⟨0, 0, 0, 0, 0⟩).page), .v (.int .i64 3)] else pagesF S j) = pagesF ((S.set (x.lns.getD k ⟨0, 0, 0, 0, 0⟩).af.toNat ⟨(x.lns.getD k ⟨0, 0, 0, 0, 0⟩).page, 3⟩).set (x.lns.getD k ⟨0, 0, 0, 0, 0⟩).at_.toNat ⟨(x.lns.getD k ⟨0, 0, 0, 0, 0⟩).page, 1⟩) j := fun j => by
        rw [sp S (x.lns.getD k ⟨0, 0, 0, 0, 0⟩).af.toNat ⟨(x.lns.getD k ⟨0, 0, 0, 0, 0⟩).page, 3⟩ hS (by omega) j]
        exact sp _ (x.lns.getD k ⟨0, 0, 0, 0, 0⟩).at_.toNat ⟨(x.lns.getD k ⟨0, 0, 0, 0, 0⟩).page, 1⟩ (by simpa using hS) (by omega) j
      refine bsplit_of_true (decide_eq_true (show (k : Int) < (x.lns.length : Int) by omega)) ?_
      refine ask_intro ⟨by omega, by show (k : Int) < (x.lns.length : Int); omega, rfl⟩ ?_
      refine bsplit_of_true (beq_iff_eq.2 c1) ?_
      refine ask_intro ⟨by show 0 ≤ (x.lns.getD k ⟨0, 0, 0, 0, 0⟩).af; omega, by show (x.lns.getD k ⟨0, 0, 0, 0, 0⟩).af < ((8 : Nat) : Int); omega⟩ ?_
      refine ask_intro (by show (x.lns.getD k ⟨0, 0, 0, 0, 0⟩).af.toNat < 8; omega) ?_
      refine bsplit_of_true (beq_iff_eq.2 c2) ?_
      refine ask_intro ⟨by show 0 ≤ (x.lns.getD k ⟨0, 0, 0, 0, 0⟩).at_; omega, by show (x.lns.getD k ⟨0, 0, 0, 0, 0⟩).at_ < ((8 : Nat) : Int); omega⟩ ?_
      refine ask_intro (by show (x.lns.getD k ⟨0, 0, 0, 0, 0⟩).at_.toNat < 8; omega) ?_
      exact ⟨⟨(k + 1, _), by show k + 1 ≤ _; omega, hl8.trans hS, hall⟩, le_of [(96, 96)] rfl rfl rfl rfl (tellHp_row rfl rfl rfl (fun j hj => sp2 j) tellHp_nil) (tellFr_v rfl rfl (tellFr_row rfl rfl (tellFr_d rfl (DLe.refl _) (tellFr_v rfl rfl (tellFr_v rfl hwr trivial))))), by show x.lns.length - (k + 1) < x.lns.length - k; omega⟩
    · have hstep : laneSet g S (x.lns.getD k ⟨0, 0, 0, 0, 0⟩) = S.set (x.lns.getD k ⟨0, 0, 0, 0, 0⟩).af.toNat ⟨(x.lns.getD k ⟨0, 0, 0, 0, 0⟩).page, 3⟩ := by unfold laneSet; rw [if_neg c2, if_pos c1]
      rw [hstep] at hall hl8
      refine bsplit_of_true (decide_eq_true (show (k : Int) < (x.lns.length : Int) by omega)) ?_
      refine ask_intro ⟨by omega, by show (k : Int) < (x.lns.length : Int); omega, rfl⟩ ?_
      refine bsplit_of_true (beq_iff_eq.2 c1) ?_
      refine ask_intro ⟨by show 0 ≤ (x.lns.getD k ⟨0, 0, 0, 0, 0⟩).af; omega, by show (x.lns.getD k ⟨0, 0, 0, 0, 0⟩).af < ((8 : Nat) : Int); omega⟩ ?_
      refine ask_intro (by show (x.lns.getD k ⟨0, 0, 0, 0, 0⟩).af.toNat < 8; omega) ?_
      refine bsplit_of_false (beq_eq_false_iff_ne.2 c2) ?_
      exact ⟨⟨(k + 1, _), by show k + 1 ≤ _; omega, hl8.trans hS, hall⟩, le_of [(96, 96)] rfl rfl rfl rfl (tellHp_row rfl rfl rfl (fun j hj => sp S (x.lns.getD k ⟨0, 0, 0, 0, 0⟩).af.toNat ⟨(x.lns.getD k ⟨0, 0, 0, 0, 0⟩).page, 3⟩ hS (by omega) j) tellHp_nil) (tellFr_v rfl rfl (tellFr_row rfl rfl (tellFr_d rfl (DLe.refl _) (tellFr_v rfl rfl (tellFr_v rfl hwr trivial))))), by show x.lns.length - (k + 1) < x.lns.length - k; omega⟩
    · have hstep : laneSet g S (x.lns.getD k ⟨0, 0, 0, 0, 0⟩) = S.set (x.lns.getD k ⟨0, 0, 0, 0, 0⟩).at_.toNat ⟨(x.lns.getD k ⟨0, 0, 0, 0, 0⟩).page, 1⟩ := by unfold laneSet; rw [if_pos c2, if_neg c1]
      rw [hstep] at hall hl8
      refine bsplit_of_true (decide_eq_true (show (k : Int) < (x.lns.length : Int) by omega)) ?_
      refine ask_intro ⟨by omega, by show (k : Int) < (x.lns.length : Int); omega, rfl⟩ ?_
      refine bsplit_of_false (beq_eq_false_iff_ne.2 c1) ?_
      refine bsplit_of_true (beq_iff_eq.2 c2) ?_
      refine ask_intro ⟨by show 0 ≤ (x.lns.getD k ⟨0, 0, 0, 0, 0⟩).at_; omega, by show (x.lns.getD k ⟨0, 0, 0, 0, 0⟩).at_ < ((8 : Nat) : Int); omega⟩ ?_
      refine ask_intro (by show (x.lns.getD k ⟨0, 0, 0, 0, 0⟩).at_.toNat < 8; omega) ?_
      exact ⟨⟨(k + 1, _), by show k + 1 ≤ _; omega, hl8.trans hS, hall⟩, le_of [(96, 96)] rfl rfl rfl rfl (tellHp_row rfl rfl rfl (fun j hj => sp S (x.lns.getD k ⟨0, 0, 0, 0, 0⟩).at_.toNat ⟨(x.lns.getD k ⟨0, 0, 0, 0, 0⟩).page, 1⟩ hS (by omega) j) tellHp_nil) (tellFr_v rfl rfl (tellFr_row rfl rfl (tellFr_d rfl (DLe.refl _) (tellFr_v rfl rfl (tellFr_v rfl hwr trivial))))), by show x.lns.length - (k + 1) < x.lns.length - k; omega⟩
    · have hstep : laneSet g S (x.lns.getD k ⟨0, 0, 0, 0, 0⟩) = S := by unfold laneSet; rw [if_neg c2, if_neg c1]
      rw [hstep] at hall hl8
      refine bsplit_of_true (decide_eq_true (show (k : Int) < (x.lns.length : Int) by omega)) ?_
      refine ask_intro ⟨by omega, by show (k : Int) < (x.lns.length : Int); omega, rfl⟩ ?_
      refine bsplit_of_false (beq_eq_false_iff_ne.2 c1) ?_
      refine bsplit_of_false (beq_eq_false_iff_ne.2 c2) ?_
      exact ⟨⟨(k + 1, S), by show k + 1 ≤ _; omega, hS, hall⟩, le_of [(96, 96)] rfl rfl rfl rfl (tellHp_row rfl rfl rfl (fun j hj => rfl) tellHp_nil) (tellFr_v rfl rfl (tellFr_row rfl rfl (tellFr_d rfl (DLe.refl _) (tellFr_v rfl rfl (tellFr_v rfl hwr trivial))))), by show x.lns.length - (k + 1) < x.lns.length - k; omega⟩
  obtain rfl : k = x.lns.length := by omega
  rw [List.drop_eq_nil_of_le (Nat.le_refl _)] at hall
  have hall : V = S := hall
  subst hall
  refine bsplit_of_false (decide_eq_false (show ¬ (x.lns.length : Int) < (x.lns.length : Int) by omega)) ?_
  exact ⟨⟨⟨rfl, rfl, hS.symm, fun j hj => ⟨rfl, rfl⟩⟩, trivial⟩, rfl⟩
end Go.Proofs.YtojaakpnpdnbhaaGreat.L

/- The law function over a machine that goes back from a trap answers true. -/
set_option linter.unusedVariables false
set_option linter.unusedSimpArgs false
set_option maxRecDepth 100000
namespace Go.Proofs.YtojaakpnpdnbhaaGreat.L
open Go.RowKit
theorem backHart_few (m : HartM) (hf : m.few) (hs : m.small) : (backHart m).2.few ∧ (backHart m).2.small := by
  unfold backHart
  split
  · exact ⟨⟨hf.regs, by simpa [backM] using hf.csr, hf.inp, hf.out⟩, ⟨hs.regs, by simpa [backM] using hs.csr, hs.inp, hs.out⟩⟩
  · exact hartZ_few
end Go.Proofs.YtojaakpnpdnbhaaGreat.L

/- The law functions over a machine that is fed answer true. -/
set_option linter.unusedVariables false
set_option linter.unusedSimpArgs false
set_option maxRecDepth 100000
namespace Go.Proofs.YtojaakpnpdnbhaaGreat.L
open Go.RowKit
theorem hK_b (m : HartM) (k : Int) (hf : m.few) (h1 : 0 ≤ k) (h2 : k ≤ 1048576) : 0 ≤ hK4 m k ∧ hK4 m k ≤ k + 4194304 := by
  obtain ⟨b1, b2, b3, b4⟩ := hf
  unfold hK4 hK3 hK2 hK1
  omega
theorem ints_b (l : List Int) (k : Int) (hf : l.length ≤ 1048576) (h1 : 0 ≤ k) (h2 : k ≤ 1099511627776) : 0 ≤ k + l.length ∧ k + l.length ≤ k + 1048576 := by omega
theorem feedHart_few (m : HartM) (hf : m.few) (hs : m.small) (l : List Int) (hl : l.length ≤ 1048576) : (feedHart m l).2.few ∧ (feedHart m l).2.small := by
  unfold feedHart
  split
  · cases h1 : (!l.all isW)
    · cases h2 : decide ((m.inp.length : Int) + l.length > 40)
      · have h2 : ¬ ((m.inp.length : Int) + l.length > 40) := by simpa using h2
        have e : (m.inp ++ l).length = m.inp.length + l.length := by simp
        exact ⟨⟨hf.regs, hf.csr, by show (m.inp ++ l).length ≤ _; omega, hf.out⟩, ⟨hs.regs, hs.csr, by show (m.inp ++ l).length * 8 ≤ _; omega, hs.out⟩⟩
      · exact hartZ_few
    · exact hartZ_few
  · exact hartZ_few
end Go.Proofs.YtojaakpnpdnbhaaGreat.L

/- The law functions over a guest's own view answer true. -/
set_option linter.unusedVariables false
set_option linter.unusedSimpArgs false
set_option maxRecDepth 100000
namespace Go.Proofs.YtojaakpnpdnbhaaGreat.L
open Go.RowKit
abbrev okPages (l : List PageM) : Prop := l.length * 16 ≤ reachBytes ∧ ∀ x ∈ l, ok64 x.to ∧ ok64 x.kinds
theorem szq_of {q : Int} {n : Nat} (h : decide ((if q - (n : Int) < 0 then -1 else q - (n : Int)) < 0) = false) : (n : Int) ≤ q := by
  have := of_decide_eq_false h
  split at this <;> omega
theorem len2_b {α : Type} (l : List α) (k : Int) (hf : l.length ≤ 1048576) (h1 : 0 ≤ k) (h2 : k ≤ 1073741824) : 0 ≤ k + 2 * (l.length : Int) ∧ k + 2 * (l.length : Int) ≤ k + 2097152 := by omega
end Go.Proofs.YtojaakpnpdnbhaaGreat.L

/- The pages of a guest, as the reference has them: contracts. -/
set_option linter.unusedVariables false
set_option linter.unusedSimpArgs false
set_option maxRecDepth 100000
namespace Go.Proofs.YtojaakpnpdnbhaaGreat.L
open Go.RowKit
abbrev nonesL (k : Nat) : List PageM := List.replicate k ⟨-1, 0⟩
theorem nones_step (k : Nat) : nonesL k ++ [⟨-1, 0⟩] = nonesL (k + 1) := by rw [nonesL, nonesL, List.replicate_succ']
set_option maxHeartbeats 1600000 in
theorem c_spec_l7Pages (x : PolM) (hs : x.small) (g : Int) (hg : 0 ≤ g) (hg2 : g < x.own.length) (h5 : (x.own.getD g.toNat []).length ≤ 5) (hl : LnsOK x) : FnOK Tryz.prog 47 [polP x, di g] (.r (.one (oPages (pagesP x g)))) := by
  have hsl := hs.lns
  have hV8 := pagesP_len h5
  obtain ⟨V, hV⟩ : ∃ V, V = pagesP x g := ⟨_, rfl⟩
  rw [← hV] at hV8 ⊢
  unfold pagesP at hV
  refine fn_of lv47 Tryz.func47 rfl rfl (by kernel_rfl) rfl ?_
  refine ⟨{ i : Nat // i ≤ 8 }, fun i => ⟨frL [(0, polP x), (1, di g), (5, .row 96), (6, di i.1)], hpL [(96, .row 83 2 i.1 (pagesF (nonesL i.1)))], 97, 0⟩, fun i => 8 - i.1, ⟨0, by omega⟩,
    le_of [(96, 4096)] rfl rfl rfl rfl (tellHp_row rfl rfl rfl (fun j hj => absurd hj (Nat.not_lt_zero _)) tellHp_nil) (tellFr_x rfl ⟨DLe.refl _, DLe.refl _, DLe.refl _, DLe.refl _, trivial⟩ (tellFr_v rfl rfl (tellFr_row rfl rfl (tellFr_v rfl rfl trivial)))), ?_⟩
  rintro ⟨k, hk⟩
  by_cases hk2 : k < 8
  · have hwr := congrArg (Value.int .i64) (wrap1 hk2 (by omega))
    have hap := fun j (hj : j < k + 1) => app_pages (nonesL k) ⟨-1, 0⟩ j (by simpa using hj)
    rw [List.length_replicate, nones_step] at hap
    refine bsplit_of_true (decide_eq_true (show (k : Int) < 8 by omega)) ?_
    refine .inl ⟨_, _, rfl, c_spec_l4None, rfl, ?_⟩
    refine ask_intro ⟨by show (k + 1) * 16 ≤ 140737488355328; omega, by show k + 1 ≤ 9223372036854775807; omega, one_len2 ⟨-1, 0⟩⟩ ?_
    exact ⟨⟨k + 1, by omega⟩, le_of [(96, 4289)] rfl rfl rfl rfl (tellHp_row rfl rfl rfl (fun j hj => hap j hj) tellHp_nil) (tellFr_x rfl ⟨DLe.refl _, DLe.refl _, DLe.refl _, DLe.refl _, trivial⟩ (tellFr_v rfl rfl (tellFr_row rfl rfl (tellFr_v rfl hwr trivial)))), by show 8 - (k + 1) < 8 - k; omega⟩
  obtain rfl : k = 8 := by omega
  refine bsplit_of_false (decide_eq_false (show ¬ ((8 : Nat) : Int) < 8 by omega)) ?_
  refine ⟨{ i : Nat // i ≤ (x.own.getD g.toNat []).length }, fun i => ⟨frL [(0, polP x), (1, di g), (5, .row 96), (7, di i.1)], hpL [(96, .row 83 2 8 (pagesF (ownS (x.own.getD g.toNat []) i.1)))], 97, 0⟩, fun i => (x.own.getD g.toNat []).length - i.1, ⟨0, by omega⟩,
    le_of [(96, 96)] rfl rfl rfl rfl (tellHp_row rfl rfl rfl (fun j hj => rfl) tellHp_nil) (tellFr_x rfl ⟨DLe.refl _, DLe.refl _, DLe.refl _, DLe.refl _, trivial⟩ (tellFr_v rfl rfl (tellFr_row rfl rfl (tellFr_v rfl rfl trivial)))), ?_⟩
  rintro ⟨k, hk⟩
  by_cases hk2 : k < (x.own.getD g.toNat []).length
  · have est := ownS_step (x.own.getD g.toNat []) k hk2 (by omega)
    have esl := ownS_len (x.own.getD g.toNat []) k hk (by omega)
    have hwr := congrArg (Value.int .i64) (wrap1 hk2 (by omega))
    refine ask_intro ⟨hg, hg2, rfl⟩ ?_
    refine bsplit_of_true (decide_eq_true (show (k : Int) < ((x.own.getD g.toNat []).length : Int) by omega)) ?_
    refine ask_intro ⟨hg, hg2, rfl⟩ ?_
    refine ask_intro ⟨by omega, by show (k : Int) < ((x.own.getD g.toNat []).length : Int); omega, rfl⟩ ?_
    refine ask_intro ⟨by omega, by show (k : Int) < ((8 : Nat) : Int); omega⟩ ?_
    refine ask_intro (by show k < 8; omega) ?_
    exact ⟨⟨k + 1, by omega⟩, le_of [(96, 96)] rfl rfl rfl rfl (tellHp_row rfl rfl rfl (fun j hj => (set_pagesF (ownS (x.own.getD g.toNat []) k) k ⟨(x.own.getD g.toNat []).getD k 0, 7⟩ (by omega) j).trans (by rw [est])) tellHp_nil) (tellFr_x rfl ⟨DLe.refl _, DLe.refl _, DLe.refl _, DLe.refl _, trivial⟩ (tellFr_v rfl rfl (tellFr_row rfl rfl (tellFr_v rfl hwr trivial)))), by show (x.own.getD g.toNat []).length - (k + 1) < (x.own.getD g.toNat []).length - k; omega⟩
  obtain rfl : k = (x.own.getD g.toNat []).length := by omega
  refine ask_intro ⟨hg, hg2, rfl⟩ ?_
  refine bsplit_of_false (decide_eq_false (show ¬ ((x.own.getD g.toNat []).length : Int) < ((x.own.getD g.toNat []).length : Int) by omega)) ?_
  refine ⟨{ p : Nat × List PageM // p.1 ≤ x.lns.length ∧ p.2.length = 8 ∧ V = (x.lns.drop p.1).foldl (laneSet g) p.2 }, fun p => ⟨frL [(0, polP x), (1, di g), (5, .row 96), (8, di p.1.1)], hpL [(96, .row 83 2 8 (pagesF p.1.2))], 97, 0⟩, fun p => x.lns.length - p.1.1, ⟨(0, ownS (x.own.getD g.toNat []) (x.own.getD g.toNat []).length), by omega, ownS_len _ _ (Nat.le_refl _) (by omega), hV⟩,
    le_of [(96, 96)] rfl rfl rfl rfl (tellHp_row rfl rfl rfl (fun j hj => rfl) tellHp_nil) (tellFr_x rfl ⟨DLe.refl _, DLe.refl _, DLe.refl _, DLe.refl _, trivial⟩ (tellFr_v rfl rfl (tellFr_row rfl rfl (tellFr_v rfl rfl trivial)))), ?_⟩
  rintro ⟨⟨k, S⟩, hk, hS, hall⟩
  simp only at hk hS hall
  by_cases hk2 : k < x.lns.length
  · rw [drop_consG ⟨0, 0, 0, 0, 0⟩ _ _ hk2, List.foldl_cons] at hall
    have hmem : x.lns.getD k ⟨0, 0, 0, 0, 0⟩ ∈ x.lns := by rw [getD_at _ hk2]; exact List.getElem_mem _
    obtain ⟨⟨a1, a2⟩, ⟨a3, a4⟩, _⟩ := hl _ hmem
    have hwr := congrArg (Value.int .i64) (wrap1 hk2 (by omega))
    have hl8 := laneSet_len g S (x.lns.getD k ⟨0, 0, 0, 0, 0⟩)
    have sp : ∀ (S : List PageM) (i : Nat) (p : PageM), S.length = 8 → i < 8 → ∀ j, (if j = i then splice (pagesF S j) 0 [.v (.int .i64 p.to), .v (.int .i64 p.kinds)] else pagesF S j) = pagesF (S.set i p) j := fun S i p h1 h2 j => set_pagesF S i p (by omega) j
    by_cases c1 : (x.lns.getD k ⟨0, 0, 0, 0, 0⟩).frm = g <;> by_cases c2 : (x.lns.getD k ⟨0, 0, 0, 0, 0⟩).to = g
    · have hstep : laneSet g S (x.lns.getD k ⟨0, 0, 0, 0, 0⟩) = (S.set (x.lns.getD k ⟨0, 0, 0, 0, 0⟩).af.toNat ⟨(x.lns.getD k ⟨0, 0, 0, 0, 0⟩).page, 3⟩).set (x.lns.getD k ⟨0, 0, 0, 0, 0⟩).at_.toNat ⟨(x.lns.getD k ⟨0, 0, 0, 0, 0⟩).page, 1⟩ := by unfold laneSet; rw [if_pos c2, if_pos c1]
      rw [hstep] at hall hl8
      have sp2 : ∀ j, (if j = (x.lns.getD k ⟨0, 0, 0, 0, 0⟩).at_.toNat then splice (if j = (x.lns.getD k ⟨0, 0, 0, 0, 0⟩).af.toNat then splice (pagesF S j) 0 [.v (.int .i64 (x.lns.getD k ⟨0, 0, 0, 0, 0⟩).page), .v (.int .i64 3)] else pagesF S j) 0 [.v (.int .i64 (x.lns.getD k ⟨0, 0, 0, 0, 0⟩).page), .v (.int .i64 1)] else if j = (x.lns.getD k ⟨0, 0, 0, 0, 0⟩).af.toNat then splice (pagesF S j) 0 [.v (.int .i64 (x.lns.getD k ⟨0, 0, 0, 0, 0⟩).page), .v (.int .i64 3)] else pagesF S j) = pagesF ((S.set (x.lns.getD k ⟨0, 0, 0, 0, 0⟩).af.toNat ⟨(x.lns.getD k ⟨0, 0, 0, 0, 0⟩).page, 3⟩).set (x.lns.getD k ⟨0, 0, 0, 0, 0⟩).at_.toNat ⟨(x.lns.getD k ⟨0, 0, 0, 0, 0⟩).page, 1⟩) j := fun j => by
        rw [sp S (x.lns.getD k ⟨0, 0, 0, 0, 0⟩).af.toNat ⟨(x.lns.getD k ⟨0, 0, 0, 0, 0⟩).page, 3⟩ hS (by omega) j]
        exact sp _ (x.lns.getD k ⟨0, 0, 0, 0, 0⟩).at_.toNat ⟨(x.lns.getD k ⟨0, 0, 0, 0, 0⟩).page, 1⟩ (by simpa using hS) (by omega) j
      refine bsplit_of_true (decide_eq_true (show (k : Int) < (x.lns.length : Int) by omega)) ?_
      refine ask_intro ⟨by omega, by show (k : Int) < (x.lns.length : Int); omega, rfl⟩ ?_
      refine bsplit_of_true (beq_iff_eq.2 c1) ?_
      refine ask_intro ⟨by show 0 ≤ (x.lns.getD k ⟨0, 0, 0, 0, 0⟩).af; omega, by show (x.lns.getD k ⟨0, 0, 0, 0, 0⟩).af < ((8 : Nat) : Int); omega⟩ ?_
      refine ask_intro (by show (x.lns.getD k ⟨0, 0, 0, 0, 0⟩).af.toNat < 8; omega) ?_
      refine bsplit_of_true (beq_iff_eq.2 c2) ?_
      refine ask_intro ⟨by show 0 ≤ (x.lns.getD k ⟨0, 0, 0, 0, 0⟩).at_; omega, by show (x.lns.getD k ⟨0, 0, 0, 0, 0⟩).at_ < ((8 : Nat) : Int); omega⟩ ?_
      refine ask_intro (by show (x.lns.getD k ⟨0, 0, 0, 0, 0⟩).at_.toNat < 8; omega) ?_
      exact ⟨⟨(k + 1, _), by show k + 1 ≤ _; omega, hl8.trans hS, hall⟩, le_of [(96, 96)] rfl rfl rfl rfl (tellHp_row rfl rfl rfl (fun j hj => sp2 j) tellHp_nil) (tellFr_x rfl ⟨DLe.refl _, DLe.refl _, DLe.refl _, DLe.refl _, trivial⟩ (tellFr_v rfl rfl (tellFr_row rfl rfl (tellFr_v rfl hwr trivial)))), by show x.lns.length - (k + 1) < x.lns.length - k; omega⟩
    · have hstep : laneSet g S (x.lns.getD k ⟨0, 0, 0, 0, 0⟩) = S.set (x.lns.getD k ⟨0, 0, 0, 0, 0⟩).af.toNat ⟨(x.lns.getD k ⟨0, 0, 0, 0, 0⟩).page, 3⟩ := by unfold laneSet; rw [if_neg c2, if_pos c1]
      rw [hstep] at hall hl8
      refine bsplit_of_true (decide_eq_true (show (k : Int) < (x.lns.length : Int) by omega)) ?_
      refine ask_intro ⟨by omega, by show (k : Int) < (x.lns.length : Int); omega, rfl⟩ ?_
      refine bsplit_of_true (beq_iff_eq.2 c1) ?_
      refine ask_intro ⟨by show 0 ≤ (x.lns.getD k ⟨0, 0, 0, 0, 0⟩).af; omega, by show (x.lns.getD k ⟨0, 0, 0, 0, 0⟩).af < ((8 : Nat) : Int); omega⟩ ?_
      refine ask_intro (by show (x.lns.getD k ⟨0, 0, 0, 0, 0⟩).af.toNat < 8; omega) ?_
      refine bsplit_of_false (beq_eq_false_iff_ne.2 c2) ?_
      exact ⟨⟨(k + 1, _), by show k + 1 ≤ _; omega, hl8.trans hS, hall⟩, le_of [(96, 96)] rfl rfl rfl rfl (tellHp_row rfl rfl rfl (fun j hj => sp S (x.lns.getD k ⟨0, 0, 0, 0, 0⟩).af.toNat ⟨(x.lns.getD k ⟨0, 0, 0, 0, 0⟩).page, 3⟩ hS (by omega) j) tellHp_nil) (tellFr_x rfl ⟨DLe.refl _, DLe.refl _, DLe.refl _, DLe.refl _, trivial⟩ (tellFr_v rfl rfl (tellFr_row rfl rfl (tellFr_v rfl hwr trivial)))), by show x.lns.length - (k + 1) < x.lns.length - k; omega⟩
    · have hstep : laneSet g S (x.lns.getD k ⟨0, 0, 0, 0, 0⟩) = S.set (x.lns.getD k ⟨0, 0, 0, 0, 0⟩).at_.toNat ⟨(x.lns.getD k ⟨0, 0, 0, 0, 0⟩).page, 1⟩ := by unfold laneSet; rw [if_pos c2, if_neg c1]
      rw [hstep] at hall hl8
      refine bsplit_of_true (decide_eq_true (show (k : Int) < (x.lns.length : Int) by omega)) ?_
      refine ask_intro ⟨by omega, by show (k : Int) < (x.lns.length : Int); omega, rfl⟩ ?_
      refine bsplit_of_false (beq_eq_false_iff_ne.2 c1) ?_
      refine bsplit_of_true (beq_iff_eq.2 c2) ?_
      refine ask_intro ⟨by show 0 ≤ (x.lns.getD k ⟨0, 0, 0, 0, 0⟩).at_; omega, by show (x.lns.getD k ⟨0, 0, 0, 0, 0⟩).at_ < ((8 : Nat) : Int); omega⟩ ?_
      refine ask_intro (by show (x.lns.getD k ⟨0, 0, 0, 0, 0⟩).at_.toNat < 8; omega) ?_
      exact ⟨⟨(k + 1, _), by show k + 1 ≤ _; omega, hl8.trans hS, hall⟩, le_of [(96, 96)] rfl rfl rfl rfl (tellHp_row rfl rfl rfl (fun j hj => sp S (x.lns.getD k ⟨0, 0, 0, 0, 0⟩).at_.toNat ⟨(x.lns.getD k ⟨0, 0, 0, 0, 0⟩).page, 1⟩ hS (by omega) j) tellHp_nil) (tellFr_x rfl ⟨DLe.refl _, DLe.refl _, DLe.refl _, DLe.refl _, trivial⟩ (tellFr_v rfl rfl (tellFr_row rfl rfl (tellFr_v rfl hwr trivial)))), by show x.lns.length - (k + 1) < x.lns.length - k; omega⟩
    · have hstep : laneSet g S (x.lns.getD k ⟨0, 0, 0, 0, 0⟩) = S := by unfold laneSet; rw [if_neg c2, if_neg c1]
      rw [hstep] at hall hl8
      refine bsplit_of_true (decide_eq_true (show (k : Int) < (x.lns.length : Int) by omega)) ?_
      refine ask_intro ⟨by omega, by show (k : Int) < (x.lns.length : Int); omega, rfl⟩ ?_
      refine bsplit_of_false (beq_eq_false_iff_ne.2 c1) ?_
      refine bsplit_of_false (beq_eq_false_iff_ne.2 c2) ?_
      exact ⟨⟨(k + 1, S), by show k + 1 ≤ _; omega, hS, hall⟩, le_of [(96, 96)] rfl rfl rfl rfl (tellHp_row rfl rfl rfl (fun j hj => rfl) tellHp_nil) (tellFr_x rfl ⟨DLe.refl _, DLe.refl _, DLe.refl _, DLe.refl _, trivial⟩ (tellFr_v rfl rfl (tellFr_row rfl rfl (tellFr_v rfl hwr trivial)))), by show x.lns.length - (k + 1) < x.lns.length - k; omega⟩
  obtain rfl : k = x.lns.length := by omega
  rw [List.drop_eq_nil_of_le (Nat.le_refl _)] at hall
  have hall : V = S := hall
  subst hall
  refine bsplit_of_false (decide_eq_false (show ¬ (x.lns.length : Int) < (x.lns.length : Int) by omega)) ?_
  exact ⟨⟨⟨rfl, rfl, hS.symm, fun j hj => ⟨rfl, rfl⟩⟩, trivial⟩, rfl⟩
def pagesFor (x : PolM) (g : Int) : Int × List PageM := if askedG x g = 0 then (0, pagesP x g) else (askedG x g, [])
theorem asked_pol {x : PolM} {g : Int} (h : askedG x g = 0) : polFault x = 0 := by
  unfold askedG at h
  split at h
  · assumption
  · rename_i e; exact absurd h e
theorem pagesFor_few (x : PolM) (g : Int) : (pagesFor x g).2.length ≤ 1048576 := by
  unfold pagesFor
  split
  · rename_i h
    have := pagesP_len (own_row h).2.2.1
    simp only; omega
  · simp
end Go.Proofs.YtojaakpnpdnbhaaGreat.L

/- The pages of all guests: contracts. -/
set_option linter.unusedVariables false
set_option linter.unusedSimpArgs false
set_option maxRecDepth 100000
namespace Go.Proofs.YtojaakpnpdnbhaaGreat.L
open Go.RowKit
abbrev pgssF (l : List (List PageM)) (i : Nat) : List D := [pages (l.getD i [])]
abbrev pgss (l : List (List PageM)) : D := .l l.length (pgssF l)
abbrev lenP (l : List (List PageM)) (i : Nat) : Nat := (l.getD i []).length
abbrev inP (l : List (List PageM)) (i j : Nat) : List D := pagesF (l.getD i []) j
abbrev oPgss (l : List (List PageM)) : RC := .ownn 32 83 2 l.length (lenP l) (inP l)
abbrev mapsR (p : Int × List (List PageM)) : RV1 := .agg [.v (.int .i64 p.1), oPgss p.2]
abbrev mapsLV (p : Int × List (List PageM)) : LV := .agg [di p.1, .d (pgss p.2)]
abbrev pgNest (x : PolM) (n : Nat) : Ent := .nest 32 83 2 n (fun i : Nat => (pagesP x (i : Int)).length) (fun i : Nat => pagesF (pagesP x (i : Int))) []
def mapsL (x : PolM) : List (List PageM) := (List.range x.own.length).map fun i : Nat => pagesP x (i : Int)
def buildMaps (x : PolM) : Int × List (List PageM) := if polFault x = 0 then (0, mapsL x) else (polFault x, [])
theorem mapsL_get (x : PolM) (i : Nat) (h : i < x.own.length) : (mapsL x).getD i [] = pagesP x i := by simp [mapsL, List.getD, h]
theorem pol_own {x : PolM} (h : polFault x = 0) (i : Nat) (hi : i < x.own.length) : (x.own.getD i []).length ≤ 5 := by
  have ha : askedG x i = 0 := by
    unfold askedG
    rw [if_pos h]
    have : guestB x.own.length i = true := inR_iff.2 ⟨by omega, by omega⟩
    rw [this]; rfl
  exact (own_row ha).2.2.1
theorem pol_few {x : PolM} (h : polFault x = 0) : 1 ≤ x.own.length ∧ x.own.length ≤ 3 := by
  have ho : ownBad x.own = 0 := by
    unfold polFault at h
    split at h
    · assumption
    · rename_i e; exact absurd h e
  unfold ownBad at ho
  cases hq : inR (x.own.length : Int) 1 3 with
  | false => rw [hq] at ho; simp at ho
  | true => have := inR_iff.1 hq; omega
end Go.Proofs.YtojaakpnpdnbhaaGreat.L

/- The law function over new machines answers true. -/
set_option linter.unusedVariables false
set_option linter.unusedSimpArgs false
set_option maxRecDepth 100000
namespace Go.Proofs.YtojaakpnpdnbhaaGreat.L
open Go.RowKit
theorem newHart_few (l : List Int) : (newHart l).2.few ∧ (newHart l).2.small := by
  have z : hartZ.few ∧ hartZ.small := ⟨⟨by decide, by decide, by decide, by decide⟩, ⟨by decide, by decide, by decide, by decide⟩⟩
  unfold newHart
  cases h1 : decide ((l.length : Int) > 40) with
  | true => exact z
  | false =>
    have h1 : l.length ≤ 40 := by simp at h1; omega
    cases h2 : !(l.all isW) with
    | true => exact z
    | false =>
      refine ⟨⟨?_, ?_, ?_, z.1.out⟩, ⟨?_, ?_, ?_, z.2.out⟩⟩
      · show (List.replicate 16 (0 : Int)).length ≤ _; simp
      · show (List.replicate 11 (0 : Int)).length ≤ _; simp
      · show l.length ≤ _; omega
      · show (List.replicate 16 (0 : Int)).length * 8 ≤ _; simp
      · show (List.replicate 11 (0 : Int)).length * 8 ≤ _; simp
      · show l.length * 8 ≤ _; omega
end Go.Proofs.YtojaakpnpdnbhaaGreat.L

/- The lonely machine of a guest: contracts. -/
set_option linter.unusedVariables false
set_option linter.unusedSimpArgs false
set_option maxRecDepth 100000
namespace Go.Proofs.YtojaakpnpdnbhaaGreat.L
open Go.RowKit
def alK (l : List PageM) (i k : Nat) : PageM := if k < i ∧ (l.getD k ⟨0, 0⟩).to ≥ 0 then ⟨(k : Int), (l.getD k ⟨0, 0⟩).kinds⟩ else l.getD k ⟨0, 0⟩
def alTo (l : List PageM) : List PageM := (List.range l.length).map (alK l l.length)
theorem alTo_len (l : List PageM) : (alTo l).length = l.length := by simp [alTo]
theorem alTo_get (l : List PageM) (k : Nat) (h : k < l.length) : (alTo l).getD k ⟨0, 0⟩ = alK l l.length k := by simp [alTo, List.getD, h]
theorem alK_step (l : List PageM) (i : Nat) (h : (l.getD i ⟨0, 0⟩).to ≥ 0) (j : Nat) : (if j = i then splice (pageD (alK l i j)) 0 [D.v (.int .i64 (i : Int))] else pageD (alK l i j)) = pageD (alK l (i + 1) j) := by
  unfold alK
  by_cases e : j = i
  · subst e
    rw [if_pos rfl, if_neg (by omega), if_pos ⟨by omega, h⟩]
    rfl
  · rw [if_neg e]
    by_cases h2 : j < i ∧ (l.getD j ⟨0, 0⟩).to ≥ 0
    · rw [if_pos h2, if_pos ⟨by omega, h2.2⟩]
    · rw [if_neg h2, if_neg (by omega)]
theorem alK_skip (l : List PageM) (i : Nat) (h : ¬ (l.getD i ⟨0, 0⟩).to ≥ 0) (j : Nat) : pageD (alK l i j) = pageD (alK l (i + 1) j) := by
  unfold alK
  by_cases e : j = i
  · subst e
    rw [if_neg (by omega), if_neg (by omega)]
  · by_cases h2 : j < i ∧ (l.getD j ⟨0, 0⟩).to ≥ 0
    · rw [if_pos h2, if_pos ⟨by omega, h2.2⟩]
    · rw [if_neg h2, if_neg (by omega)]
theorem alK_at (l : List PageM) (i : Nat) : (alK l i i).to = (l.getD i ⟨0, 0⟩).to := by
  unfold alK
  rw [if_neg (by omega)]
abbrev rowAl (l : List PageM) (i : Nat) : Ent := .row 83 2 l.length (fun k => pageD (alK l i k))
theorem alK_zero (l : List PageM) (k : Nat) : pagesF l k = pageD (alK l 0 k) := by
  unfold alK
  rw [if_neg (by omega)]
theorem c_impl_Policy_alone (x : PolM) (hs : x.small) (g : Int) (hg : 0 ≤ g) (hg2 : g < x.own.length) (h5 : (x.own.getD g.toNat []).length ≤ 5) (hl : LnsOK x) : FnOK Tryz.prog 31 [polP x, di g] (.r (.one (oPages (alTo (pagesP x g))))) := by
  have c1 := c_impl_Policy_pagesFor x hs g hg hg2 h5 hl
  have h8 := pagesP_len h5
  obtain ⟨l, hl⟩ : ∃ l, l = pagesP x g := ⟨_, rfl⟩
  rw [← hl] at c1 h8
  rw [← hl]
  refine fn_of lv31 Tryz.func31 rfl rfl (by kernel_rfl) rfl ?_
  refine .inl ⟨_, _, rfl, c1, rfl, ?_⟩
  refine ⟨{ i : Nat // i ≤ l.length }, fun i => ⟨frL [(5, .row 66), (11, di l.length), (12, di i.1)], hpL [(66, rowAl l i.1)], 97, 0⟩, fun i => l.length - i.1, ⟨0, by omega⟩,
    le_of [(66, 4160)] rfl rfl rfl rfl (tellHp_row rfl rfl rfl (fun j hj => alK_zero l j) tellHp_nil) (tellFr_row rfl rfl (tellFr_v rfl rfl (tellFr_v rfl rfl trivial))), ?_⟩
  rintro ⟨i, hi⟩
  by_cases h1 : i < l.length
  · have hw := congrArg (Value.int .i64) (wrap1 h1 (by omega))
    have ha := alK_at l i
    refine bsplit_of_true (decide_eq_true (show (i : Int) < (l.length : Int) by omega)) ?_
    refine ask_intro ⟨by omega, by show (i : Int) < (l.length : Int); omega⟩ ?_
    refine ask_intro (by show i < l.length; exact h1) ?_
    by_cases h2 : (l.getD i ⟨0, 0⟩).to ≥ 0
    · refine bsplit_of_true (decide_eq_true (show (alK l i i).to ≥ 0 by rw [ha]; exact h2)) ?_
      refine ask_intro ⟨by omega, by show (i : Int) < (l.length : Int); omega⟩ ?_
      refine ask_intro (by show i < l.length; exact h1) ?_
      exact ⟨⟨i + 1, by omega⟩, le_of [(66, 66)] rfl rfl rfl rfl (tellHp_row rfl rfl rfl (fun j hj => alK_step l i h2 j) tellHp_nil) (tellFr_row rfl rfl (tellFr_v rfl rfl (tellFr_v rfl hw trivial))), by show l.length - (i + 1) < l.length - i; omega⟩
    · refine bsplit_of_false (decide_eq_false (show ¬ (alK l i i).to ≥ 0 by rw [ha]; exact h2)) ?_
      exact ⟨⟨i + 1, by omega⟩, le_of [(66, 66)] rfl rfl rfl rfl (tellHp_row rfl rfl rfl (fun j hj => alK_skip l i h2 j) tellHp_nil) (tellFr_row rfl rfl (tellFr_v rfl rfl (tellFr_v rfl hw trivial))), by show l.length - (i + 1) < l.length - i; omega⟩
  · obtain rfl : i = l.length := by omega
    refine bsplit_of_false (decide_eq_false (show ¬ (l.length : Int) < (l.length : Int) by omega)) ?_
    exact ⟨⟨⟨rfl, rfl, (alTo_len l).symm, fun j hj => ⟨by show pageD (alK l l.length j) = pageD ((alTo l).getD j ⟨0, 0⟩); rw [alTo_get l j (by rw [← alTo_len l]; exact hj)], rfl⟩⟩, trivial⟩, rfl⟩
theorem c_spec_l11Pages (x : PolM) (hs : x.small) (g : Int) (hg : 0 ≤ g) (hg2 : g < x.own.length) (h5 : (x.own.getD g.toNat []).length ≤ 5) (hl : LnsOK x) : FnOK Tryz.prog 23 [polP x, di g] (.r (.one (oPages (alTo (pagesP x g))))) := by
  have c1 := c_spec_l7Pages x hs g hg hg2 h5 hl
  have h8 := pagesP_len h5
  obtain ⟨l, hl⟩ : ∃ l, l = pagesP x g := ⟨_, rfl⟩
  rw [← hl] at c1 h8
  rw [← hl]
  refine fn_of lv23 Tryz.func23 rfl rfl (by kernel_rfl) rfl ?_
  refine .inl ⟨_, _, rfl, c1, rfl, ?_⟩
  refine ⟨{ i : Nat // i ≤ l.length }, fun i => ⟨frL [(5, .row 66), (6, di i.1)], hpL [(66, rowAl l i.1)], 97, 0⟩, fun i => l.length - i.1, ⟨0, by omega⟩,
    le_of [(66, 4160)] rfl rfl rfl rfl (tellHp_row rfl rfl rfl (fun j hj => alK_zero l j) tellHp_nil) (tellFr_row rfl rfl (tellFr_v rfl rfl trivial)), ?_⟩
  rintro ⟨i, hi⟩
  by_cases h1 : i < l.length
  · have hw := congrArg (Value.int .i64) (wrap1 h1 (by omega))
    have ha := alK_at l i
    refine bsplit_of_true (decide_eq_true (show (i : Int) < (l.length : Int) by omega)) ?_
    refine ask_intro ⟨by omega, by show (i : Int) < (l.length : Int); omega⟩ ?_
    refine ask_intro (by show i < l.length; exact h1) ?_
    by_cases h2 : (l.getD i ⟨0, 0⟩).to ≥ 0
    · refine bsplit_of_true (decide_eq_true (show (alK l i i).to ≥ 0 by rw [ha]; exact h2)) ?_
      refine ask_intro ⟨by omega, by show (i : Int) < (l.length : Int); omega⟩ ?_
      refine ask_intro (by show i < l.length; exact h1) ?_
      exact ⟨⟨i + 1, by omega⟩, le_of [(66, 66)] rfl rfl rfl rfl (tellHp_row rfl rfl rfl (fun j hj => alK_step l i h2 j) tellHp_nil) (tellFr_row rfl rfl (tellFr_v rfl hw trivial)), by show l.length - (i + 1) < l.length - i; omega⟩
    · refine bsplit_of_false (decide_eq_false (show ¬ (alK l i i).to ≥ 0 by rw [ha]; exact h2)) ?_
      exact ⟨⟨i + 1, by omega⟩, le_of [(66, 66)] rfl rfl rfl rfl (tellHp_row rfl rfl rfl (fun j hj => alK_skip l i h2 j) tellHp_nil) (tellFr_row rfl rfl (tellFr_v rfl hw trivial)), by show l.length - (i + 1) < l.length - i; omega⟩
  · obtain rfl : i = l.length := by omega
    refine bsplit_of_false (decide_eq_false (show ¬ (l.length : Int) < (l.length : Int) by omega)) ?_
    exact ⟨⟨⟨rfl, rfl, (alTo_len l).symm, fun j hj => ⟨by show pageD (alK l l.length j) = pageD ((alTo l).getD j ⟨0, 0⟩); rw [alTo_get l j (by rw [← alTo_len l]; exact hj)], rfl⟩⟩, trivial⟩, rfl⟩
/-- the memory of an image -/
def memK (im : List Int) (i k : Nat) : Int := if k < i then wrapW (im.getD k 0) else 0
def memOf (im : List Int) : List Int := (List.range 64).map (memK im im.length)
theorem memOf_get (im : List Int) (k : Nat) (h : k < 64) : (memOf im).getD k 0 = memK im im.length k := by simp [memOf, List.getD, h]
theorem memK_step (im : List Int) (i j : Nat) : (if j = i then splice [D.v (.int .i64 (memK im i j))] 0 [D.v (.int .i64 (wrapW (im.getD i 0)))] else [D.v (.int .i64 (memK im i j))]) = [D.v (.int .i64 (memK im (i + 1) j))] := by
  unfold memK
  by_cases e : j = i
  · subst e
    rw [if_pos rfl]
    show [D.v (.int .i64 (wrapW (im.getD j 0)))] = [D.v (.int .i64 (if j < j + 1 then wrapW (im.getD j 0) else 0))]
    rw [if_pos (by omega)]
  · rw [if_neg e]
    by_cases h : j < i
    · rw [if_pos h, if_pos (by omega)]
    · rw [if_neg h, if_neg (by omega)]
abbrev rowMem (im : List Int) (i : Nat) : Ent := .row 2 1 64 (fun k => [D.v (.int .i64 (memK im i k))])
def soloOf (x : PolM) (g : Int) (im inp : List Int) : Int × SoloM := if askedG x g = 0 then (if (im.length : Int) > 8 * ((x.own.getD g.toNat []).length : Int) then (8, soloZ) else if (newHart inp).1 = 0 then (0, ⟨(newHart inp).2, alTo (pagesP x g), memOf im⟩) else ((newHart inp).1, soloZ)) else (askedG x g, soloZ)
theorem asked_guest {x : PolM} {g : Int} (h : askedG x g = 0) : polFault x = 0 ∧ 0 ≤ g ∧ g < (x.own.length : Int) := by
  unfold askedG at h
  split at h
  · rename_i hp
    cases e : guestB x.own.length g with
    | true =>
      have := inR_iff.1 (show inR g 0 _ = true from e)
      exact ⟨hp, by omega, by omega⟩
    | false => rw [e] at h; simp at h
  · rename_i e; exact absurd h e
abbrev soZ' : List LV := [di 0, .d (.v (.slice none 0 0)), di 0, .d (.v (.slice none 0 0)), dv (.bool false), dv (.bool false), dv (.bool false), di 0, .d (.v (.slice none 0 0)), .d (.v (.slice none 0 0)), .d (.v (.slice none 0 0)), .d (.v (.slice none 0 0))]
set_option maxHeartbeats 1600000 in
theorem c_impl_SoloOf (x : PolM) (hs : x.small) (g : Int) (im : List Int) (hi : im.length ≤ 1048576) (inp : List Int) (hn : inp.length ≤ 1048576) : FnOK Tryz.prog 8 [polLV x, di g, .d (ints im), .d (ints inp)] (.r (soRR (soloOf x g im inp))) := by
  have c1 := c_impl_guestFault x hs g
  have c2 := c_impl_NewHart inp (by omega)
  obtain ⟨r, hr⟩ : ∃ r, r = soloOf x g im inp := ⟨_, rfl⟩
  rw [← hr]
  unfold soloOf at hr
  by_cases he : askedG x g = 0
  rotate_left
  · rw [if_neg he] at hr
    subst hr
    generalize askedG x g = e at *
    refine fn_of lv8 Tryz.func8 rfl rfl (by kernel_rfl) rfl ?_
    refine .inl ⟨_, _, rfl, c1, rfl, ?_⟩
    refine bsplit_of_true (by simpa using he) ?_
    exact ⟨⟨rfl, ⟨rfl, rfl⟩, rfl, ⟨rfl, rfl⟩, rfl, rfl, rfl, rfl, ⟨rfl, rfl⟩, ⟨rfl, rfl⟩, ⟨rfl, rfl⟩, ⟨rfl, rfl⟩, trivial⟩, rfl⟩
  rw [if_pos he] at hr
  obtain ⟨hp, g0, g1⟩ := asked_guest he
  rw [he] at c1
  have h5 := pol_own hp g.toNat (by omega)
  have ew : IntKind.i64.wrap (((x.own.getD g.toNat []).length : Int) * 8) = 8 * ((x.own.getD g.toNat []).length : Int) := by rw [wrap_i64 _ (by omega) (by omega)]; omega
  by_cases hb : (im.length : Int) > 8 * ((x.own.getD g.toNat []).length : Int)
  · rw [if_pos hb] at hr
    subst hr
    refine fn_of lv8 Tryz.func8 rfl rfl (by kernel_rfl) rfl ?_
    refine .inl ⟨_, _, rfl, c1, rfl, ?_⟩
    repeat' (first | refine bsplit_true ?_ | refine bsplit_false ?_)
    refine ask_intro ⟨by omega, by show g < (x.own.length : Int); omega, rfl⟩ ?_
    refine bsplit_of_true (decide_eq_true (show (im.length : Int) > IntKind.i64.wrap (((x.own.getD g.toNat []).length : Int) * 8) by rw [ew]; exact hb)) ?_
    exact ⟨⟨rfl, ⟨rfl, rfl⟩, rfl, ⟨rfl, rfl⟩, rfl, rfl, rfl, rfl, ⟨rfl, rfl⟩, ⟨rfl, rfl⟩, ⟨rfl, rfl⟩, ⟨rfl, rfl⟩, trivial⟩, rfl⟩
  rw [if_neg hb] at hr
  have hi64 : im.length ≤ 40 := by omega
  have hbn : decide ((im.length : Int) > IntKind.i64.wrap (((x.own.getD g.toNat []).length : Int) * 8)) = false := decide_eq_false (by rw [ew]; exact hb)
  obtain ⟨⟨cd, h⟩, hh⟩ : ∃ q, q = newHart inp := ⟨_, rfl⟩
  rw [← hh] at hr c2
  by_cases hc : cd = 0
  rotate_left
  · rw [if_neg hc] at hr
    subst hr
    refine fn_of lv8 Tryz.func8 rfl rfl (by kernel_rfl) rfl ?_
    refine .inl ⟨_, _, rfl, c1, rfl, ?_⟩
    repeat' (first | refine bsplit_true ?_ | refine bsplit_false ?_)
    refine ask_intro ⟨by omega, by show g < (x.own.length : Int); omega, rfl⟩ ?_
    refine bsplit_of_false hbn ?_
    refine .inl ⟨_, _, rfl, c2, rfl, ?_⟩
    refine bsplit_of_true (by simpa using hc) ?_
    exact ⟨⟨rfl, ⟨rfl, rfl⟩, rfl, ⟨rfl, rfl⟩, rfl, rfl, rfl, rfl, ⟨rfl, rfl⟩, ⟨rfl, rfl⟩, ⟨rfl, rfl⟩, ⟨rfl, rfl⟩, trivial⟩, rfl⟩
  rw [if_pos hc] at hr
  subst hc
  subst hr
  have c3 := c_impl_Policy_alone x hs g g0 g1 h5 (lns_ok hp)
  refine fn_of lv8 Tryz.func8 rfl rfl (by kernel_rfl) rfl ?_
  refine .inl ⟨_, _, rfl, c1, rfl, ?_⟩
  repeat' (first | refine bsplit_true ?_ | refine bsplit_false ?_)
  refine ask_intro ⟨by omega, by show g < (x.own.length : Int); omega, rfl⟩ ?_
  refine bsplit_of_false hbn ?_
  refine .inl ⟨_, _, rfl, c2, rfl, ?_⟩
  repeat' (first | refine bsplit_true ?_ | refine bsplit_false ?_)
  refine ask_intro ⟨rfl, by omega, by show (64 : Int) * 8 ≤ 140737488355328; omega, by omega⟩ ?_
  refine ⟨{ i : Nat // i ≤ im.length }, fun i => ⟨frL [(1, di g), (4, .ptr 10 0), (8, .ptr 11 0), (10, .ptr 12 0), (11, .row 17), (41, .d (ints im)), (42, di im.length), (43, di i.1)], hpL [(10, .box 42 [.d (owns x.own), .d (lanes x.lns), .d (bells x.bls), .d (slots x.pln)]), (11, .box 36 soZ'), (12, .box 59 [di 0, .row 13, di h.pc, .row 14, dv (.bool h.halted), dv (.bool h.waiting), dv (.bool h.rung), di h.done, .row 15, .row 16]), (13, rowE h.regs), (14, rowE h.csr), (15, rowE h.inp), (16, rowE h.out), (17, rowMem im i.1)], 100, 0⟩, fun i => im.length - i.1, ⟨0, by omega⟩,
    le_of [(10, 0), (11, 32), (12, 16448), (13, 16417), (14, 16419), (15, 16424), (16, 16425), (17, 24576)] rfl rfl rfl rfl (tellHp_box rfl rfl ⟨DLe.refl _, DLe.refl _, DLe.refl _, DLe.refl _, trivial⟩ (tellHp_box rfl rfl ⟨rfl, rfl, rfl, rfl, rfl, rfl, rfl, rfl, rfl, rfl, rfl, rfl, trivial⟩ (tellHp_box rfl rfl ⟨rfl, rfl, rfl, rfl, rfl, rfl, rfl, rfl, rfl, rfl, trivial⟩ (tellHp_row rfl rfl rfl (fun j hj => rfl) (tellHp_row rfl rfl rfl (fun j hj => rfl) (tellHp_row rfl rfl rfl (fun j hj => rfl) (tellHp_row rfl rfl rfl (fun j hj => rfl) (tellHp_row rfl rfl rfl (fun j hj => by unfold memK; rw [if_neg (Nat.not_lt_zero _)]; rfl) tellHp_nil))))))))
      (tellFr_v rfl rfl (tellFr_ptr rfl rfl (tellFr_ptr rfl rfl (tellFr_ptr rfl rfl (tellFr_row rfl rfl (tellFr_d rfl (DLe.refl _) (tellFr_v rfl rfl (tellFr_v rfl rfl trivial)))))))), ?_⟩
  rintro ⟨i, hi2⟩
  by_cases h1 : i < im.length
  · have hw := congrArg (Value.int .i64) (wrap1 h1 (by omega))
    have cw := c_impl_WrapWord (im.getD i 0)
    refine bsplit_of_true (decide_eq_true (show (i : Int) < (im.length : Int) by omega)) ?_
    refine ask_intro ⟨by omega, by show (i : Int) < (im.length : Int); omega, rfl⟩ ?_
    refine .inl ⟨_, _, rfl, cw, rfl, ?_⟩
    refine ask_intro ⟨by omega, by show (i : Int) < ((64 : Nat) : Int); omega⟩ ?_
    refine ask_intro (by show i < 64; omega) ?_
    exact ⟨⟨i + 1, by omega⟩, le_of [(10, 10), (11, 11), (12, 12), (13, 13), (14, 14), (15, 15), (16, 16), (17, 17)] rfl rfl rfl rfl (tellHp_box rfl rfl ⟨DLe.refl _, DLe.refl _, DLe.refl _, DLe.refl _, trivial⟩ (tellHp_box rfl rfl ⟨rfl, rfl, rfl, rfl, rfl, rfl, rfl, rfl, rfl, rfl, rfl, rfl, trivial⟩ (tellHp_box rfl rfl ⟨rfl, rfl, rfl, rfl, rfl, rfl, rfl, rfl, rfl, rfl, trivial⟩ (tellHp_row rfl rfl rfl (fun j hj => rfl) (tellHp_row rfl rfl rfl (fun j hj => rfl) (tellHp_row rfl rfl rfl (fun j hj => rfl) (tellHp_row rfl rfl rfl (fun j hj => rfl) (tellHp_row rfl rfl rfl (fun j hj => memK_step im i j) tellHp_nil))))))))
      (tellFr_v rfl rfl (tellFr_ptr rfl rfl (tellFr_ptr rfl rfl (tellFr_ptr rfl rfl (tellFr_row rfl rfl (tellFr_d rfl (DLe.refl _) (tellFr_v rfl rfl (tellFr_v rfl hw trivial)))))))), by show im.length - (i + 1) < im.length - i; omega⟩
  · obtain rfl : i = im.length := by omega
    refine bsplit_of_false (decide_eq_false (show ¬ (im.length : Int) < (im.length : Int) by omega)) ?_
    refine .inl ⟨_, _, rfl, c3, rfl, ?_⟩
    refine chk_intro (by kernel_rfl) ?_
    exact ⟨⟨rfl, ⟨rfl, rfl, rfl, fun i hi => ⟨rfl, rfl⟩⟩, rfl, ⟨rfl, rfl, rfl, fun i hi => ⟨rfl, rfl⟩⟩, rfl, rfl, rfl, rfl, ⟨rfl, rfl, rfl, fun i hi => ⟨rfl, rfl⟩⟩, ⟨rfl, rfl, rfl, fun i hi => ⟨rfl, rfl⟩⟩, ⟨rfl, rfl, rfl, fun i hi => ⟨rfl, rfl⟩⟩, ⟨rfl, rfl, (show 64 = (memOf im).length by simp [memOf]), fun j hj => ⟨by show [D.v (.int .i64 (memK im im.length j))] = [D.v (.int .i64 ((memOf im).getD j 0))]; rw [memOf_get im j (by have hj : j < (memOf im).length := hj; simpa [memOf] using hj)], rfl⟩⟩, trivial⟩, rfl⟩
set_option maxHeartbeats 1600000 in
theorem c_spec_SoloOf (x : PolM) (hs : x.small) (g : Int) (im : List Int) (hi : im.length ≤ 1048576) (inp : List Int) (hn : inp.length ≤ 1048576) : FnOK Tryz.prog 5 [polLV x, di g, .d (ints im), .d (ints inp)] (.r (soRR (soloOf x g im inp))) := by
  have c1 := c_spec_l6Asked x hs g
  have c2 := c_spec_NewHart inp (by omega)
  obtain ⟨r, hr⟩ : ∃ r, r = soloOf x g im inp := ⟨_, rfl⟩
  rw [← hr]
  unfold soloOf at hr
  by_cases he : askedG x g = 0
  rotate_left
  · rw [if_neg he] at hr
    subst hr
    generalize askedG x g = e at *
    refine fn_of lv5 Tryz.func5 rfl rfl (by kernel_rfl) rfl ?_
    refine .inl ⟨_, _, rfl, c1, rfl, ?_⟩
    refine bsplit_of_true (by simpa using he) ?_
    exact ⟨⟨rfl, ⟨rfl, rfl⟩, rfl, ⟨rfl, rfl⟩, rfl, rfl, rfl, rfl, ⟨rfl, rfl⟩, ⟨rfl, rfl⟩, ⟨rfl, rfl⟩, ⟨rfl, rfl⟩, trivial⟩, rfl⟩
  rw [if_pos he] at hr
  obtain ⟨hp, g0, g1⟩ := asked_guest he
  rw [he] at c1
  have h5 := pol_own hp g.toNat (by omega)
  have ew : IntKind.i64.wrap (((x.own.getD g.toNat []).length : Int) * 8) = 8 * ((x.own.getD g.toNat []).length : Int) := by rw [wrap_i64 _ (by omega) (by omega)]; omega
  by_cases hb : (im.length : Int) > 8 * ((x.own.getD g.toNat []).length : Int)
  · rw [if_pos hb] at hr
    subst hr
    refine fn_of lv5 Tryz.func5 rfl rfl (by kernel_rfl) rfl ?_
    refine .inl ⟨_, _, rfl, c1, rfl, ?_⟩
    repeat' (first | refine bsplit_true ?_ | refine bsplit_false ?_)
    refine ask_intro ⟨by omega, by show g < (x.own.length : Int); omega, rfl⟩ ?_
    refine bsplit_of_true (decide_eq_true (show (im.length : Int) > IntKind.i64.wrap (((x.own.getD g.toNat []).length : Int) * 8) by rw [ew]; exact hb)) ?_
    exact ⟨⟨rfl, ⟨rfl, rfl⟩, rfl, ⟨rfl, rfl⟩, rfl, rfl, rfl, rfl, ⟨rfl, rfl⟩, ⟨rfl, rfl⟩, ⟨rfl, rfl⟩, ⟨rfl, rfl⟩, trivial⟩, rfl⟩
  rw [if_neg hb] at hr
  have hi64 : im.length ≤ 40 := by omega
  have hbn : decide ((im.length : Int) > IntKind.i64.wrap (((x.own.getD g.toNat []).length : Int) * 8)) = false := decide_eq_false (by rw [ew]; exact hb)
  obtain ⟨⟨cd, h⟩, hh⟩ : ∃ q, q = newHart inp := ⟨_, rfl⟩
  rw [← hh] at hr c2
  by_cases hc : cd = 0
  rotate_left
  · rw [if_neg hc] at hr
    subst hr
    refine fn_of lv5 Tryz.func5 rfl rfl (by kernel_rfl) rfl ?_
    refine .inl ⟨_, _, rfl, c1, rfl, ?_⟩
    repeat' (first | refine bsplit_true ?_ | refine bsplit_false ?_)
    refine ask_intro ⟨by omega, by show g < (x.own.length : Int); omega, rfl⟩ ?_
    refine bsplit_of_false hbn ?_
    refine .inl ⟨_, _, rfl, c2, rfl, ?_⟩
    refine bsplit_of_true (by simpa using hc) ?_
    exact ⟨⟨rfl, ⟨rfl, rfl⟩, rfl, ⟨rfl, rfl⟩, rfl, rfl, rfl, rfl, ⟨rfl, rfl⟩, ⟨rfl, rfl⟩, ⟨rfl, rfl⟩, ⟨rfl, rfl⟩, trivial⟩, rfl⟩
  rw [if_pos hc] at hr
  subst hc
  subst hr
  have c3 := c_spec_l11Pages x hs g g0 g1 h5 (lns_ok hp)
  refine fn_of lv5 Tryz.func5 rfl rfl (by kernel_rfl) rfl ?_
  refine .inl ⟨_, _, rfl, c1, rfl, ?_⟩
  repeat' (first | refine bsplit_true ?_ | refine bsplit_false ?_)
  refine ask_intro ⟨by omega, by show g < (x.own.length : Int); omega, rfl⟩ ?_
  refine bsplit_of_false hbn ?_
  refine .inl ⟨_, _, rfl, c2, rfl, ?_⟩
  repeat' (first | refine bsplit_true ?_ | refine bsplit_false ?_)
  refine ask_intro ⟨rfl, by omega, by show (64 : Int) * 8 ≤ 140737488355328; omega, by omega⟩ ?_
  refine ⟨{ i : Nat // i ≤ im.length }, fun i => ⟨frL [(1, di g), (2, .d (ints im)), (4, .ptr 10 0), (8, .ptr 11 0), (10, .ptr 12 0), (11, .row 17), (12, di i.1)], hpL [(10, .box 42 [.d (owns x.own), .d (lanes x.lns), .d (bells x.bls), .d (slots x.pln)]), (11, .box 36 soZ'), (12, .box 59 [di 0, .row 13, di h.pc, .row 14, dv (.bool h.halted), dv (.bool h.waiting), dv (.bool h.rung), di h.done, .row 15, .row 16]), (13, rowE h.regs), (14, rowE h.csr), (15, rowE h.inp), (16, rowE h.out), (17, rowMem im i.1)], 100, 0⟩, fun i => im.length - i.1, ⟨0, by omega⟩,
    le_of [(10, 0), (11, 32), (12, 16448), (13, 16417), (14, 16419), (15, 16424), (16, 16425), (17, 24576)] rfl rfl rfl rfl (tellHp_box rfl rfl ⟨DLe.refl _, DLe.refl _, DLe.refl _, DLe.refl _, trivial⟩ (tellHp_box rfl rfl ⟨rfl, rfl, rfl, rfl, rfl, rfl, rfl, rfl, rfl, rfl, rfl, rfl, trivial⟩ (tellHp_box rfl rfl ⟨rfl, rfl, rfl, rfl, rfl, rfl, rfl, rfl, rfl, rfl, trivial⟩ (tellHp_row rfl rfl rfl (fun j hj => rfl) (tellHp_row rfl rfl rfl (fun j hj => rfl) (tellHp_row rfl rfl rfl (fun j hj => rfl) (tellHp_row rfl rfl rfl (fun j hj => rfl) (tellHp_row rfl rfl rfl (fun j hj => by unfold memK; rw [if_neg (Nat.not_lt_zero _)]; rfl) tellHp_nil))))))))
      (tellFr_v rfl rfl (tellFr_d rfl (DLe.refl _) (tellFr_ptr rfl rfl (tellFr_ptr rfl rfl (tellFr_ptr rfl rfl (tellFr_row rfl rfl (tellFr_v rfl rfl trivial))))))), ?_⟩
  rintro ⟨i, hi2⟩
  by_cases h1 : i < im.length
  · have hw := congrArg (Value.int .i64) (wrap1 h1 (by omega))
    have cw := c_spec_WrapWord (im.getD i 0)
    refine bsplit_of_true (decide_eq_true (show (i : Int) < (im.length : Int) by omega)) ?_
    refine ask_intro ⟨by omega, by show (i : Int) < (im.length : Int); omega, rfl⟩ ?_
    refine .inl ⟨_, _, rfl, cw, rfl, ?_⟩
    refine ask_intro ⟨by omega, by show (i : Int) < ((64 : Nat) : Int); omega⟩ ?_
    refine ask_intro (by show i < 64; omega) ?_
    exact ⟨⟨i + 1, by omega⟩, le_of [(10, 10), (11, 11), (12, 12), (13, 13), (14, 14), (15, 15), (16, 16), (17, 17)] rfl rfl rfl rfl (tellHp_box rfl rfl ⟨DLe.refl _, DLe.refl _, DLe.refl _, DLe.refl _, trivial⟩ (tellHp_box rfl rfl ⟨rfl, rfl, rfl, rfl, rfl, rfl, rfl, rfl, rfl, rfl, rfl, rfl, trivial⟩ (tellHp_box rfl rfl ⟨rfl, rfl, rfl, rfl, rfl, rfl, rfl, rfl, rfl, rfl, trivial⟩ (tellHp_row rfl rfl rfl (fun j hj => rfl) (tellHp_row rfl rfl rfl (fun j hj => rfl) (tellHp_row rfl rfl rfl (fun j hj => rfl) (tellHp_row rfl rfl rfl (fun j hj => rfl) (tellHp_row rfl rfl rfl (fun j hj => memK_step im i j) tellHp_nil))))))))
      (tellFr_v rfl rfl (tellFr_d rfl (DLe.refl _) (tellFr_ptr rfl rfl (tellFr_ptr rfl rfl (tellFr_ptr rfl rfl (tellFr_row rfl rfl (tellFr_v rfl hw trivial))))))), by show im.length - (i + 1) < im.length - i; omega⟩
  · obtain rfl : i = im.length := by omega
    refine bsplit_of_false (decide_eq_false (show ¬ (im.length : Int) < (im.length : Int) by omega)) ?_
    refine .inl ⟨_, _, rfl, c3, rfl, ?_⟩
    refine chk_intro (by kernel_rfl) ?_
    exact ⟨⟨rfl, ⟨rfl, rfl, rfl, fun i hi => ⟨rfl, rfl⟩⟩, rfl, ⟨rfl, rfl, rfl, fun i hi => ⟨rfl, rfl⟩⟩, rfl, rfl, rfl, rfl, ⟨rfl, rfl, rfl, fun i hi => ⟨rfl, rfl⟩⟩, ⟨rfl, rfl, rfl, fun i hi => ⟨rfl, rfl⟩⟩, ⟨rfl, rfl, rfl, fun i hi => ⟨rfl, rfl⟩⟩, ⟨rfl, rfl, (show 64 = (memOf im).length by simp [memOf]), fun j hj => ⟨by show [D.v (.int .i64 (memK im im.length j))] = [D.v (.int .i64 ((memOf im).getD j 0))]; rw [memOf_get im j (by have hj : j < (memOf im).length := hj; simpa [memOf] using hj)], rfl⟩⟩, trivial⟩, rfl⟩
theorem memOf_len (im : List Int) : (memOf im).length = 64 := by simp [memOf]
theorem soloOf_few (x : PolM) (g : Int) (im inp : List Int) : (soloOf x g im inp).2.small ∧ (soloOf x g im inp).2.hart.few ∧ (soloOf x g im inp).2.pages.length ≤ 1048576 ∧ (soloOf x g im inp).2.mem.length ≤ 1048576 := by
  have hz : soloZ.small ∧ soloZ.hart.few ∧ soloZ.pages.length ≤ 1048576 ∧ soloZ.mem.length ≤ 1048576 := ⟨soloZ_small, soloZ_few, by decide, by decide⟩
  unfold soloOf
  split
  · rename_i he
    obtain ⟨hp, g0, g1⟩ := asked_guest he
    split
    · exact hz
    · split
      · have h8 := pagesP_len (pol_own hp g.toNat (by omega))
        have hl := alTo_len (pagesP x g)
        have hm := memOf_len im
        obtain ⟨hf, hsm⟩ := newHart_few inp
        exact ⟨⟨hsm, by show (alTo (pagesP x g)).length * 16 ≤ _; omega, by show (memOf im).length * 8 ≤ _; omega⟩, hf, by show (alTo (pagesP x g)).length ≤ _; omega, by show (memOf im).length ≤ _; omega⟩
      · exact hz
  · exact hz
end Go.Proofs.YtojaakpnpdnbhaaGreat.L

/- Images in the memory of a host: contracts. -/
set_option linter.unusedVariables false
set_option linter.unusedSimpArgs false
set_option maxRecDepth 100000
namespace Go.Proofs.YtojaakpnpdnbhaaGreat.L
open Go.RowKit
theorem set_intsF (S : List Int) (i : Nat) (v : Int) (hi : i < S.length) (j : Nat) : (if j = i then splice (intsF S j) 0 [.v (.int .i64 v)] else intsF S j) = intsF (S.set i v) j := by
  by_cases h : j = i
  · subst h
    rw [if_pos rfl]
    have e : (S.set j v).getD j 0 = v := by simp [List.getD, hi]
    simp only [intsF, e]
    rfl
  · rw [if_neg h]
    have e : (S.set i v).getD j 0 = S.getD j 0 := by simp [List.getD, List.getElem?_set_ne (Ne.symm h)]
    simp only [intsF, e]
def plI (own : List Int) (i : Nat) : Nat := (own.getD (i / 8) 0 * 8 + ((i % 8 : Nat) : Int)).toNat
def imgS (own img m : List Int) (i : Nat) : List Int := m.set (plI own i) (wrapW (img.getD i 0))
def imgM (own img m : List Int) (n : Nat) : List Int := (List.range n).foldl (imgS own img) m
theorem imgM_succ (own img m : List Int) (n : Nat) : imgM own img m (n + 1) = imgS own img (imgM own img m n) n := by simp [imgM, List.range_succ]
theorem imgM_len (own img m : List Int) : ∀ n, (imgM own img m n).length = m.length
  | 0 => rfl
  | n + 1 => by rw [imgM_succ, imgS, List.length_set, imgM_len own img m n]
def allM (own imgs : List (List Int)) : Nat → List Int
  | 0 => List.replicate 192 0
  | n + 1 => imgM (own.getD n []) (imgs.getD n []) (allM own imgs n) (imgs.getD n []).length
theorem allM_len (own imgs : List (List Int)) : ∀ n, (allM own imgs n).length = 192
  | 0 => by simp [allM]
  | n + 1 => by rw [allM, imgM_len, allM_len own imgs n]
theorem tdiv8 (i : Nat) (h : i ≤ 1048576) : IntKind.i64.wrap (Int.tdiv (i : Int) 8) = ((i / 8 : Nat) : Int) := by
  rw [Int.tdiv_eq_ediv_of_nonneg (by omega)]
  exact (wrap_i64 _ (by omega) (by omega)).trans (by omega)
theorem tmod8 (i : Nat) : Int.tmod (i : Int) 8 = ((i % 8 : Nat) : Int) := by
  rw [Int.tmod_eq_emod_of_nonneg (by omega)]
  omega
/-- where a word of an image goes -/
theorem img_place {own : List Int} {i : Nat} (hi : i < own.length * 8) (h5 : own.length ≤ 5) (hp : ∀ p ∈ own, 0 ≤ p ∧ p ≤ 23) :
    (0 ≤ IntKind.i64.wrap (Int.tdiv (i : Int) 8) ∧ IntKind.i64.wrap (Int.tdiv (i : Int) 8) < (own.length : Int)) ∧
    IntKind.i64.wrap (IntKind.i64.wrap (own.getD (IntKind.i64.wrap (Int.tdiv (i : Int) 8)).toNat 0 * 8) + Int.tmod (i : Int) 8) = ((plI own i : Nat) : Int) ∧ plI own i < 192 := by
  rw [tdiv8 i (by omega), tmod8]
  have hlt : i / 8 < own.length := by omega
  obtain ⟨h1, h2⟩ := hp (own.getD (i / 8) 0) (by rw [getD_at _ hlt]; exact List.getElem_mem _)
  unfold plI
  rw [Int.toNat_natCast]
  generalize own.getD (i / 8) 0 = p at *
  rw [wrap_i64 (p * 8) (by omega) (by omega), wrap_i64 _ (by omega) (by omega)]
  omega
def tooLong (own imgs : List (List Int)) (n : Nat) : Bool := (List.range n).any fun g => decide ((own.getD g []).length * 8 < (imgs.getD g []).length)
theorem tooLong_succ (own imgs : List (List Int)) (n : Nat) : tooLong own imgs (n + 1) = (tooLong own imgs n || decide ((own.getD n []).length * 8 < (imgs.getD n []).length)) := by simp [tooLong, List.range_succ]
theorem tooLong_le {own imgs : List (List Int)} : ∀ {n m : Nat}, n ≤ m → tooLong own imgs m = false → tooLong own imgs n = false := by
  intro n m h hm
  unfold tooLong at *
  rw [List.any_eq_false] at *
  intro g hg
  exact hm g (by simp at hg ⊢; omega)
theorem tooLong_at {own imgs : List (List Int)} {n g : Nat} (h : tooLong own imgs n = false) (hg : g < n) : (imgs.getD g []).length ≤ (own.getD g []).length * 8 := by
  unfold tooLong at h
  rw [List.any_eq_false] at h
  have := h g (by simpa using hg)
  simpa using this
theorem tooLong_hit {own imgs : List (List Int)} {n g : Nat} (hg : g < n) (h : (own.getD g []).length * 8 < (imgs.getD g []).length) : tooLong own imgs n = true := by
  unfold tooLong
  rw [List.any_eq_true]
  exact ⟨g, by simpa using hg, by simpa using h⟩
def imgCode (own imgs : List (List Int)) : Int := if imgs.length = own.length then (if tooLong own imgs own.length = true then 8 else 0) else 2
def loadImages (x : PolM) (imgs : List (List Int)) : Int × List Int := if polFault x = 0 then (if imgCode x.own imgs = 0 then (0, allM x.own imgs x.own.length) else (imgCode x.own imgs, [])) else (polFault x, [])
theorem loadImages_few (x : PolM) (imgs : List (List Int)) : (loadImages x imgs).2.length ≤ 1048576 := by
  unfold loadImages
  split
  · split
    · have := allM_len x.own imgs x.own.length
      simp only; omega
    · simp
  · simp
theorem pol_row {x : PolM} (h : polFault x = 0) (i : Nat) (hi : i < x.own.length) : (x.own.getD i []).length ≤ 5 ∧ ∀ p ∈ x.own.getD i [], 0 ≤ p ∧ p ≤ 23 := by
  have ha : askedG x i = 0 := by
    unfold askedG
    rw [if_pos h]
    have : guestB x.own.length i = true := inR_iff.2 ⟨by omega, by omega⟩
    rw [this]; rfl
  exact (own_row ha).2.2
end Go.Proofs.YtojaakpnpdnbhaaGreat.L

/- The law functions over policies answer true. -/
set_option linter.unusedVariables false
set_option linter.unusedSimpArgs false
set_option maxRecDepth 100000
namespace Go.Proofs.YtojaakpnpdnbhaaGreat.L
open Go.RowKit Go.ChangeShapes Go.WideShapes Go.ChangeAt
theorem reads_owns : ReadsT Tryz.prog 22 1 (List (List Int)) (fun l => [owns l]) (fun l => l.length * 24 ≤ reachBytes ∧ ∀ x ∈ l, okInts x) := ReadsT.slice reads_ints Tryz.underlying22 (by kernel_rfl) (by decide) [] (by kernel_rfl)
theorem reads_Lane : ReadsT Tryz.prog 87 5 LaneM laneD (fun p => ok64 p.frm ∧ ok64 p.to ∧ ok64 p.page ∧ ok64 p.af ∧ ok64 p.at_) :=
  (ReadsT.struct (ok := _) Tryz.underlying87 (by kernel_rfl) (ReadsL.cons reads_int64 (.cons reads_int64 (.cons reads_int64 (.cons reads_int64 (.cons reads_int64 (.nil 5))))))).map (fun m => ⟨m.1, m.2.1, m.2.2.1, m.2.2.2.1, m.2.2.2.2.1⟩) (fun m h => ⟨⟨h.1, h.2.1, h.2.2.1, h.2.2.2.1, h.2.2.2.2.1⟩, rfl⟩)
theorem reads_lanes : ReadsT Tryz.prog 23 1 (List LaneM) (fun l => [lanes l]) (fun l => l.length * 40 ≤ reachBytes ∧ ∀ p ∈ l, ok64 p.frm ∧ ok64 p.to ∧ ok64 p.page ∧ ok64 p.af ∧ ok64 p.at_) := ReadsT.slice reads_Lane Tryz.underlying23 (by kernel_rfl) (by decide) ⟨0, 0, 0, 0, 0⟩ (by kernel_rfl)
theorem reads_Bell : ReadsT Tryz.prog 91 2 BellM bellD (fun p => ok64 p.frm ∧ ok64 p.to) :=
  (ReadsT.struct (ok := _) Tryz.underlying91 (by kernel_rfl) (ReadsL.cons reads_int64 (.cons reads_int64 (.nil 2)))).map (fun m => ⟨m.1, m.2.1⟩) (fun m h => ⟨⟨h.1, h.2.1⟩, rfl⟩)
theorem reads_bells : ReadsT Tryz.prog 24 1 (List BellM) (fun l => [bells l]) (fun l => l.length * 16 ≤ reachBytes ∧ ∀ p ∈ l, ok64 p.frm ∧ ok64 p.to) := ReadsT.slice reads_Bell Tryz.underlying24 (by kernel_rfl) (by decide) ⟨0, 0⟩ (by kernel_rfl)
theorem reads_Slot : ReadsT Tryz.prog 95 2 SlotM slotD (fun p => ok64 p.guest ∧ ok64 p.steps) :=
  (ReadsT.struct (ok := _) Tryz.underlying95 (by kernel_rfl) (ReadsL.cons reads_int64 (.cons reads_int64 (.nil 2)))).map (fun m => ⟨m.1, m.2.1⟩) (fun m h => ⟨⟨h.1, h.2.1⟩, rfl⟩)
theorem reads_slots : ReadsT Tryz.prog 25 1 (List SlotM) (fun l => [slots l]) (fun l => l.length * 16 ≤ reachBytes ∧ ∀ p ∈ l, ok64 p.guest ∧ ok64 p.steps) := ReadsT.slice reads_Slot Tryz.underlying25 (by kernel_rfl) (by decide) ⟨0, 0⟩ (by kernel_rfl)
structure PolM.ok (x : PolM) : Prop where
  own : x.own.length * 24 ≤ reachBytes ∧ ∀ r ∈ x.own, okInts r
  lns : x.lns.length * 40 ≤ reachBytes ∧ ∀ p ∈ x.lns, ok64 p.frm ∧ ok64 p.to ∧ ok64 p.page ∧ ok64 p.af ∧ ok64 p.at_
  bls : x.bls.length * 16 ≤ reachBytes ∧ ∀ p ∈ x.bls, ok64 p.frm ∧ ok64 p.to
  pln : x.pln.length * 16 ≤ reachBytes ∧ ∀ p ∈ x.pln, ok64 p.guest ∧ ok64 p.steps
theorem PolM.ok.small {x : PolM} (h : x.ok) : x.small := by
  have e := reach_eq
  have a := h.own.1
  have b := h.lns.1
  have c := h.bls.1
  have d := h.pln.1
  refine ⟨by omega, fun i hi => ?_, by omega, by omega, by omega⟩
  have := (h.own.2 (x.own.getD i []) (by rw [getD_at _ hi]; exact List.getElem_mem hi)).1
  omega
theorem reads_Policy : ReadsT Tryz.prog 27 4 PolM polD PolM.ok :=
  (ReadsT.struct (ok := _) Tryz.underlying27 (by kernel_rfl) (ReadsL.cons reads_owns (.cons reads_lanes (.cons reads_bells (.cons reads_slots (.nil 4)))))).map (fun m => ⟨m.1, m.2.1, m.2.2.1, m.2.2.2.1⟩) (fun m h => ⟨⟨h.1, h.2.1, h.2.2.1, h.2.2.2.1⟩, rfl⟩)
theorem szP_of {x : PolM} {q : Int} (h : decide (szP x q < 0) = false) : (x.size : Int) ≤ q := by
  have h := of_decide_eq_false h
  unfold szP at h
  split at h <;> omega
end Go.Proofs.YtojaakpnpdnbhaaGreat.L

/- Images in the memory of a host, as the reference has them: contracts. -/
set_option linter.unusedVariables false
set_option linter.unusedSimpArgs false
set_option maxRecDepth 100000
namespace Go.Proofs.YtojaakpnpdnbhaaGreat.L
open Go.RowKit
theorem imgCode_ok {own imgs : List (List Int)} (h : imgCode own imgs = 0) : imgs.length = own.length ∧ tooLong own imgs own.length = false := by
  unfold imgCode at h
  split at h
  · split at h
    · exact absurd h (by decide)
    · rename_i h1 h2; exact ⟨h1, by simpa using h2⟩
  · exact absurd h (by decide)
abbrev okIntss (l : List (List Int)) : Prop := l.length * 24 ≤ reachBytes ∧ ∀ x ∈ l, okInts x
theorem okIntss_in {l : List (List Int)} (h : okIntss l) : ∀ i, i < l.length → (l.getD i []).length * 8 ≤ 140737488355328 := by
  intro i hi
  have := (h.2 (l.getD i []) (by rw [getD_at _ hi]; exact List.getElem_mem _)).1
  rw [reach_eq] at this
  omega
theorem szO_of {l : List (List Int)} {q : Int} (h : decide (szO l q < 0) = false) : ((l.length + sumN l : Nat) : Int) ≤ q := by
  have h := of_decide_eq_false h
  unfold szO at h
  split at h <;> omega
theorem szP_eq {x : PolM} {q : Int} (h : decide (szP x q < 0) = false) : szP x q = q - (x.size : Int) := by
  have h := of_decide_eq_false h
  unfold szP at h ⊢
  split at h
  · omega
  · rename_i h2; rw [if_neg h2]
theorem intss_len {l : List (List Int)} {q : Int} (h : ((l.length + sumN l : Nat) : Int) ≤ q) : ∀ i, i < l.length → ((l.getD i []).length : Int) ≤ q := by
  intro i hi
  have := sumN_get l i hi
  omega
theorem intss_b (l : List (List Int)) (k : Int) {q : Int} (hf : ((l.length + sumN l : Nat) : Int) ≤ q) (h1 : 0 ≤ k) (h2 : k ≤ 1073741824) : 0 ≤ k + (sumN l : Nat) ∧ k + (sumN l : Nat) ≤ k + q := by omega
end Go.Proofs.YtojaakpnpdnbhaaGreat.L

/- The law function FnExactSoloOf answers true. -/
set_option linter.unusedVariables false
set_option linter.unusedSimpArgs false
set_option maxRecDepth 100000
namespace Go.Proofs.YtojaakpnpdnbhaaGreat.L
open Go.RowKit
set_option maxHeartbeats 1600000 in
theorem c_laws_FnExactSoloOf (x0 : PolM) (x1 : Int) (x2 : List Int) (x3 : List Int) (ho_x0 : x0.ok) (ho_x1 : ok64 x1) (ho_x2 : okInts x2) (ho_x3 : okInts x3) : FnOK Tryz.prog 3 [polLV x0, di x1, .d (ints x2), .d (ints x3)] (rb true) := by
  have hs_x0 := ho_x0.small
  have hl8_x2 : x2.length * 8 ≤ 140737488355328 := by have := ho_x2.1; rw [reach_eq] at this; omega
  have hl8_x3 : x3.length * 8 ≤ 140737488355328 := by have := ho_x3.1; rw [reach_eq] at this; omega
  refine fn_of lv3 Tryz.func3 rfl rfl (by kernel_rfl) rfl ?_
  refine bsplit_intro (fun h => ?_) (fun h => ?_)
  · exact ⟨⟨rfl, trivial⟩, rfl⟩
  have hf_x2 : x2.length ≤ 1048576 := by simp at h; omega
  refine bsplit_intro (fun h => ?_) (fun h => ?_)
  · exact ⟨⟨rfl, trivial⟩, rfl⟩
  have hf_x3 : x3.length ≤ 1048576 := by simp at h; omega
  refine .inl ⟨_, _, rfl, c_laws_szPolicy x0 hs_x0 (1048576) (by omega) (by omega), rfl, ?_⟩
  refine bsplit_intro (fun h => ?_) (fun h => ?_)
  · exact ⟨⟨rfl, trivial⟩, rfl⟩
  have hf_x0 : (x0.size : Int) ≤ 1048576 := szP_of h
  have hq_x0 := szP_eq h
  have cs := c_spec_SoloOf x0 hs_x0 x1 x2 hf_x2 x3 hf_x3
  have ci := c_impl_SoloOf x0 hs_x0 x1 x2 hf_x2 x3 hf_x3
  obtain ⟨hsm, hf, hfp, hfm⟩ := soloOf_few x0 x1 x2 x3
  obtain ⟨p, hp⟩ : ∃ p, p = soloOf x0 x1 x2 x3 := ⟨_, rfl⟩
  rw [← hp] at cs ci hsm hf hfp hfm
  have hkp : 0 ≤ sK6 p.2 1 := (sK_b p.2 1 hf hfp hfm (by omega) (by omega)).2.2.2.2.1
  have hk : ¬ sK6 p.2 1 < 0 := by omega
  have hb0 := polK_b x0 (1) hf_x0 (by omega) (by omega)
  have hb1 := ints_b x2 (polK x0 (1)) hf_x2 hb0.1 (by have := hb0.2; omega)
  have hb2 := ints_b x3 ((polK x0 (1)) + (x2.length : Int)) hf_x3 hb1.1 (by have := hb1.2; omega)
  refine .inl ⟨_, _, rfl, c_laws_toPolicy x0 hs_x0, rfl, ?_⟩
  repeat' (first | refine bsplit_true ?_ | refine bsplit_false ?_ | refine chk_intro (by kernel_rfl) ?_ | refine bsplit_of_false (by simp; done) ?_)
  refine .inl ⟨_, _, rfl, c_laws_toInt64S x2 hl8_x2, rfl, ?_⟩
  repeat' (first | refine bsplit_true ?_ | refine bsplit_false ?_ | refine chk_intro (by kernel_rfl) ?_ | refine bsplit_of_false (by simp; done) ?_)
  refine .inl ⟨_, _, rfl, c_laws_toInt64S x3 hl8_x3, rfl, ?_⟩
  repeat' (first | refine bsplit_true ?_ | refine bsplit_false ?_ | refine chk_intro (by kernel_rfl) ?_ | refine bsplit_of_false (by simp; done) ?_)
  refine .inl ⟨_, _, rfl, cs, rfl, ?_⟩
  repeat' (first | refine bsplit_true ?_ | refine bsplit_false ?_ | refine chk_intro (by kernel_rfl) ?_ | refine bsplit_of_false (by simp; done) ?_)
  refine .inl ⟨_, _, rfl, c_laws_toPolicy x0 hs_x0, rfl, ?_⟩
  repeat' (first | refine bsplit_true ?_ | refine bsplit_false ?_ | refine chk_intro (by kernel_rfl) ?_ | refine bsplit_of_false (by simp; done) ?_)
  refine .inl ⟨_, _, rfl, c_laws_toInt64S x2 hl8_x2, rfl, ?_⟩
  repeat' (first | refine bsplit_true ?_ | refine bsplit_false ?_ | refine chk_intro (by kernel_rfl) ?_ | refine bsplit_of_false (by simp; done) ?_)
  refine .inl ⟨_, _, rfl, c_laws_toInt64S x3 hl8_x3, rfl, ?_⟩
  repeat' (first | refine bsplit_true ?_ | refine bsplit_false ?_ | refine chk_intro (by kernel_rfl) ?_ | refine bsplit_of_false (by simp; done) ?_)
  refine .inl ⟨_, _, rfl, ci, rfl, ?_⟩
  repeat' (first | refine bsplit_true ?_ | refine bsplit_false ?_ | refine chk_intro (by kernel_rfl) ?_ | refine bsplit_of_false (by simp; done) ?_)
  refine .inl ⟨_, _, rfl, c_laws_eqSoloResult p p hsm, rfl, ?_⟩
  repeat' (first | refine bsplit_true ?_ | refine bsplit_false ?_ | refine chk_intro (by kernel_rfl) ?_ | refine bsplit_of_false (by simp; done) ?_)
  refine .inl ⟨_, _, rfl, c_laws_toPolicy x0 hs_x0, rfl, ?_⟩
  repeat' (first | refine bsplit_true ?_ | refine bsplit_false ?_ | refine chk_intro (by kernel_rfl) ?_ | refine bsplit_of_false (by simp; done) ?_)
  refine .inl ⟨_, _, rfl, c_laws_eqPolicy x0 x0 hs_x0, rfl, ?_⟩
  repeat' (first | refine bsplit_true ?_ | refine bsplit_false ?_ | refine chk_intro (by kernel_rfl) ?_ | refine bsplit_of_false (by simp; done) ?_)
  refine .inl ⟨_, _, rfl, c_laws_toInt64S x2 hl8_x2, rfl, ?_⟩
  repeat' (first | refine bsplit_true ?_ | refine bsplit_false ?_ | refine chk_intro (by kernel_rfl) ?_ | refine bsplit_of_false (by simp; done) ?_)
  refine .inl ⟨_, _, rfl, c_laws_eqInt64S x2 x2 (by omega), rfl, ?_⟩
  repeat' (first | refine bsplit_true ?_ | refine bsplit_false ?_ | refine chk_intro (by kernel_rfl) ?_ | refine bsplit_of_false (by simp; done) ?_)
  refine .inl ⟨_, _, rfl, c_laws_toInt64S x3 hl8_x3, rfl, ?_⟩
  repeat' (first | refine bsplit_true ?_ | refine bsplit_false ?_ | refine chk_intro (by kernel_rfl) ?_ | refine bsplit_of_false (by simp; done) ?_)
  refine .inl ⟨_, _, rfl, c_laws_eqInt64S x3 x3 (by omega), rfl, ?_⟩
  repeat' (first | refine bsplit_true ?_ | refine bsplit_false ?_ | refine chk_intro (by kernel_rfl) ?_ | refine bsplit_of_false (by simp; done) ?_)
  refine .inr ⟨rfl, use_mut ⟨_, _, _, _, _, _, rfl, rfl, c_laws_markPolicy x0 (1) hf_x0 (by omega) (by omega), rfl, ?_⟩⟩
  repeat' (first | refine bsplit_true ?_ | refine bsplit_false ?_ | refine chk_intro (by kernel_rfl) ?_)
  refine .inr ⟨rfl, use_mut ⟨_, _, _, _, _, _, rfl, rfl, c_laws_markInt64S x2 (polK x0 (1)) (by omega) hb0.1 (by have := hb0.2; omega), rfl, ?_⟩⟩
  repeat' (first | refine bsplit_true ?_ | refine bsplit_false ?_ | refine chk_intro (by kernel_rfl) ?_)
  refine .inr ⟨rfl, use_mut ⟨_, _, _, _, _, _, rfl, rfl, c_laws_markInt64S x3 ((polK x0 (1)) + (x2.length : Int)) (by omega) hb1.1 (by have := hb1.2; omega), rfl, ?_⟩⟩
  repeat' (first | refine bsplit_true ?_ | refine bsplit_false ?_ | refine chk_intro (by kernel_rfl) ?_)
  try refine bsplit_of_false (decide_eq_false (show ¬ (((polK x0 (1)) + (x2.length : Int)) + (x3.length : Int)) < 0 by have := hb2.1; omega)) ?_
  repeat' (first | refine bsplit_true ?_ | refine bsplit_false ?_ | refine chk_intro (by kernel_rfl) ?_ | refine bsplit_of_false (by simp; done) ?_)
  refine .inl ⟨_, _, rfl, c_laws_eqSoloResult p p hsm, rfl, ?_⟩
  repeat' (first | refine bsplit_true ?_ | refine bsplit_false ?_ | refine chk_intro (by kernel_rfl) ?_ | refine bsplit_of_false (by simp; done) ?_)
  refine .inr ⟨rfl, use_mut ⟨_, _, _, _, _, _, rfl, rfl, c_laws_markSoloResult p 1 hf hfp hfm (by omega) (by omega), rfl, ?_⟩⟩
  repeat' (first | refine bsplit_true ?_ | refine bsplit_false ?_ | refine chk_intro (by kernel_rfl) ?_)
  refine .inl ⟨_, _, rfl, c_laws_heldSoloResult p 1 hf hfp hfm (by omega) (by omega), rfl, ?_⟩
  repeat' (first | refine bsplit_true ?_ | refine bsplit_false ?_ | refine chk_intro (by kernel_rfl) ?_)
  try refine bsplit_of_false (decide_eq_false hk) ?_
  repeat' (first | refine bsplit_true ?_ | refine bsplit_false ?_ | refine chk_intro (by kernel_rfl) ?_ | refine bsplit_of_false (by simp; done) ?_)
  refine .inl ⟨_, _, rfl, c_laws_toPolicy x0 hs_x0, rfl, ?_⟩
  repeat' (first | refine bsplit_true ?_ | refine bsplit_false ?_ | refine chk_intro (by kernel_rfl) ?_ | refine bsplit_of_false (by simp; done) ?_)
  refine .inl ⟨_, _, rfl, c_laws_toInt64S x2 hl8_x2, rfl, ?_⟩
  repeat' (first | refine bsplit_true ?_ | refine bsplit_false ?_ | refine chk_intro (by kernel_rfl) ?_ | refine bsplit_of_false (by simp; done) ?_)
  refine .inl ⟨_, _, rfl, c_laws_toInt64S x3 hl8_x3, rfl, ?_⟩
  repeat' (first | refine bsplit_true ?_ | refine bsplit_false ?_ | refine chk_intro (by kernel_rfl) ?_ | refine bsplit_of_false (by simp; done) ?_)
  refine .inl ⟨_, _, rfl, ci, rfl, ?_⟩
  repeat' (first | refine bsplit_true ?_ | refine bsplit_false ?_ | refine chk_intro (by kernel_rfl) ?_ | refine bsplit_of_false (by simp; done) ?_)
  refine .inl ⟨_, _, rfl, c_laws_eqSoloResult p p hsm, rfl, ?_⟩
  repeat' (first | refine bsplit_true ?_ | refine bsplit_false ?_ | refine chk_intro (by kernel_rfl) ?_ | refine bsplit_of_false (by simp; done) ?_)
  refine .inl ⟨_, _, rfl, c_laws_heldSoloResult p 1 hf hfp hfm (by omega) (by omega), rfl, ?_⟩
  repeat' (first | refine bsplit_true ?_ | refine bsplit_false ?_ | refine chk_intro (by kernel_rfl) ?_)
  try refine bsplit_of_false (decide_eq_false hk) ?_
  repeat' (first | refine bsplit_true ?_ | refine bsplit_false ?_ | refine chk_intro (by kernel_rfl) ?_ | refine bsplit_of_false (by simp; done) ?_)
  exact ⟨⟨rfl, trivial⟩, rfl⟩

end Go.Proofs.YtojaakpnpdnbhaaGreat.L

/- The law FnExactSoloOf answers true at every input that its statement lets in. -/
set_option linter.unusedVariables false
set_option maxRecDepth 100000
namespace Go.Proofs.YtojaakpnpdnbhaaGreat.L.FnExactSoloOf
open Go.RowKit Go.ChangeShapes Go.WideShapes Go.ChangeAt
theorem lifted (os : Os) (started : os.Started) (H : Type) (enc : TypeId × Value → H) :
    ReturnsInHanded {} Tryz.checked os 3 .any (Rows.fnExactSoloOfSpec.pre6 enc Tryz.prog Tryz.f3 Rows.fnExactSoloOfRow.domain false) (Rows.fnExactSoloOfSpec.post enc Tryz.prog Tryz.f3 false true false false) := by
  refine returnsInHanded_of_change_sized (C := Tryz.checked) own started (by kernel_rfl) Tryz.func3
    (ChangeSpec.witness6 (enc := enc) (C := Tryz.checked) false ⟨#[], #[.agg #[.slice none 0 0, .slice none 0 0, .slice none 0 0, .slice none 0 0], .int .i64 0, .slice none 0 0, .slice none 0 0], []⟩ 8 (by kernel_rfl) (by kernel_rfl) (by kernel_rfl) (by kernel_rfl)) ?_
  intro W base args ds gs before hval0 hW hcnd hsz0 _
  have hsz : (DataW.weightsEach Tryz.prog (Tryz.f3.params.toList ++ Rows.fnExactSoloOfSpec.plain.varTypes Tryz.prog) (ds ++ gs)).all (· ≤ reachBytes) = true := hsz0
  have hval : ∀ (j : Nat) t v, Tryz.f3.params[j]? = some t → args[j]? = some v → Value.okWide Tryz.prog W .any base t v := hval0
  have hW' := hW
  obtain ⟨p, q, hA0, hV, rfl, hfz, hnd⟩ := hW
  have hA : DataW.TrodAll enc Tryz.prog W 0 (fun _ => true) true Tryz.f3.params.toList args.toList ds p := hA0
  rw [Tryz.params3] at hA hval hsz
  obtain ⟨v0, vs0, d0, ds0, p0, q0, hargs, rfl, rfl, h0, r0⟩ := trodAll_cons hA
  obtain ⟨v1, vs1, d1, ds1, p1, q1, rfl, rfl, rfl, h1, r1⟩ := trodAll_cons r0
  obtain ⟨v2, vs2, d2, ds2, p2, q2, rfl, rfl, rfl, h2, r2⟩ := trodAll_cons r1
  obtain ⟨v3, vs3, d3, ds3, p3, q3, rfl, rfl, rfl, h3, r3⟩ := trodAll_cons r2
  obtain ⟨rfl, rfl, rfl⟩ := trodAll_nil r3
  obtain rfl : args = #[v0, v1, v2, v3] := by cases args; simp_all
  obtain ⟨rfl, rfl⟩ := trodVars_none hV
  have hsm : ∀ k ∈ DataW.weightsEach Tryz.prog ([27, 2, 28, 28] ++ Rows.fnExactSoloOfSpec.plain.varTypes Tryz.prog) ([d0, d1, d2, d3] ++ []), k ≤ reachBytes := fun k hk => by simpa using List.all_eq_true.1 hsz k hk
  have k0 := h0
  have lt0 : ∀ x ∈ p0, x.block < W.heap.size := by obtain ⟨m, hm⟩ := k0; exact DataW.trod_lt m _ _ _ hm
  obtain ⟨m0, hm0, hvr0⟩ := reads_Policy.agg Tryz.underlying27 (hval 0 27 v0 rfl rfl) h0 (fun k hk => hsm k (DataW.weights_mem_each (j := 0) rfl rfl k hk))
  have k1 := h1
  have lt1 : ∀ x ∈ p1, x.block < W.heap.size := by obtain ⟨m, hm⟩ := k1; exact DataW.trod_lt m _ _ _ hm
  have c1 : v1.cells = #[v1] := by have z := okWide_int Tryz.underlying2 (hval 1 2 v1 rfl rfl); (first | (obtain ⟨_, rfl⟩ := z; rfl) | (obtain ⟨_, _, _, rfl⟩ := z; rfl))
  obtain ⟨m1, hm1, hvr1⟩ := reads_int64.one c1 h1 (fun k hk => hsm k (DataW.weights_mem_each (j := 1) rfl rfl k hk))
  have k2 := h2
  have lt2 : ∀ x ∈ p2, x.block < W.heap.size := by obtain ⟨m, hm⟩ := k2; exact DataW.trod_lt m _ _ _ hm
  have c2 : v2.cells = #[v2] := by have z := okWide_slice Tryz.underlying28 (hval 2 28 v2 rfl rfl); (first | (obtain ⟨_, rfl⟩ := z; rfl) | (obtain ⟨_, _, _, rfl⟩ := z; rfl))
  obtain ⟨m2, hm2, hvr2⟩ := reads_ints.one c2 h2 (fun k hk => hsm k (DataW.weights_mem_each (j := 2) rfl rfl k hk))
  have k3 := h3
  have lt3 : ∀ x ∈ p3, x.block < W.heap.size := by obtain ⟨m, hm⟩ := k3; exact DataW.trod_lt m _ _ _ hm
  have c3 : v3.cells = #[v3] := by have z := okWide_slice Tryz.underlying28 (hval 3 28 v3 rfl rfl); (first | (obtain ⟨_, rfl⟩ := z; rfl) | (obtain ⟨_, _, _, rfl⟩ := z; rfl))
  obtain ⟨m3, hm3, hvr3⟩ := reads_ints.one c3 h3 (fun k hk => hsm k (DataW.weights_mem_each (j := 3) rfl rfl k hk))
  refine ((c_laws_FnExactSoloOf m0 m1 m2 m3 hm0 hm1 hm2 hm3).calls W (Mem W) [v0, v1, v2, v3] ⟨fun b hb => hb, fun g k zs h => by cases h⟩ rfl (fun j hj => ?_)).mono fun e W' ⟨v, he, bel, hrr⟩ => ?_
  · match j, hj with
    | 0, _ => exact hvr0
    | 1, _ => exact hvr1
    | 2, _ => exact hvr2
    | 3, _ => exact hvr3
    | j + 4, hj => exact absurd hj (by simp)
  · obtain ⟨us, J, hl, rfl, hJ, hok, _, _⟩ := hrr.ex
    have h1 := hok 0 _ rfl
    have h2 : RV.val us (rb true) = .bool true := h1
    rw [h2] at he
    subst he
    exact ⟨_, rfl, _, _, _, [], _, [], hW', trodAll_mk1 (shut_bool Tryz.underlying4 _), (trodAll_cons_mk (Below.trod laidOut (by kernel_rfl) (of_decide_eq_true (by kernel_rfl)) k0 bel lt0) (trodAll_cons_mk (Below.trod laidOut (by kernel_rfl) (of_decide_eq_true (by kernel_rfl)) k1 bel lt1) (trodAll_cons_mk (Below.trod laidOut (by kernel_rfl) (of_decide_eq_true (by kernel_rfl)) k2 bel lt2) (trodAll_cons_mk (Below.trod laidOut (by kernel_rfl) (of_decide_eq_true (by kernel_rfl)) k3 bel lt3) trodAll_mk0)))), rfl, bel.frame _, fun h => by cases h⟩
theorem over : Rows.fnExactSoloOfRow.holds Tryz.pinned (OpenSpec.ofChange Rows.fnExactSoloOfSpec) :=
  OpenClaim.holds_of_wide 3 Tryz.f3 rfl rfl rfl rfl rfl rfl rfl ⟨rfl, rfl, rfl, rfl, rfl⟩ rfl rfl rfl rfl rfl (by kernel_rfl) Tryz.func3 (by kernel_rfl)
    (of_decide_eq_true (by kernel_rfl)) (by unfold Func.isWrapper; first | (rw [if_pos (by decide +kernel)]; kernel_rfl) | (rw [if_neg (by decide +kernel)]; exact ⟨rfl, rfl⟩))
    (fun os started H enc _ => lifted os started H enc)
end Go.Proofs.YtojaakpnpdnbhaaGreat.L.FnExactSoloOf
namespace Go.Proofs.YtojaakpnpdnbhaaGreat
theorem fnExactSoloOf_holds : Rows.FnExactSoloOfSaid := L.FnExactSoloOf.over
#print axioms fnExactSoloOf_holds
end Go.Proofs.YtojaakpnpdnbhaaGreat
