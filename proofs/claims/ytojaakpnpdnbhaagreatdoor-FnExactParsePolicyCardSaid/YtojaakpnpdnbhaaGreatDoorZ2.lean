/- The law FnExactParsePolicy answers true at every input that its statement lets in. -/
import Derived.Test.YtojaakpnpdnbhaaGreatDoorMc
import Derived.Test.YtojaakpnpdnbhaaGreatDoorMz
import Derived.Test.YtojaakpnpdnbhaaGreatDoorLs
import Derived.Handed
import Derived.HandedShaped
import Derived.Shelf.Vars
import Derived.Test.YtojaakpnpdnbhaaGreatDoorRows
import Derived.Test.YtojaakpnpdnbhaaGreatDoorCards
import Derived.Test.YtojaakpnpdnbhaaGreatDoorTie
import Derived.SevenTiedAt
import Derived.LaidLaws
import Derived.LaidMore
import Derived.Lay
import Derived.MakeChecks
import Derived.Stop.LaidErr
import Derived.Stop.Joined
import Derived.Test.YtojaakpnpdnbhaaGreatDoorZ1
/- What is wrong with a policy: the reference's contracts, the whole. -/
set_option linter.unusedVariables false
set_option linter.unusedSimpArgs false
set_option maxRecDepth 100000
namespace Go.Proofs.YtojaakpnpdnbhaaGreatDoor.L
open Go.RowKit
def restFault (x : PolM) : Int := if bellsBad x.own.length [] x.bls = 0 then planBad x.own.length x.pln else bellsBad x.own.length [] x.bls
set_option maxHeartbeats 1600000 in
theorem c_spec_l6Rest (x : PolM) (hs : x.small) : FnOK Tryz.prog 34 [polP x] (ri (restFault x)) := by
  have hl := hs.bls
  have hpl := hs.pln
  generalize hv : restFault x = v
  unfold restFault planBad at hv
  generalize hbc : bellsBad x.own.length [] x.bls = bc at hv
  generalize hpc : firstNZ (x.pln.map (slotBad x.own.length)) = pc at hv
  refine fn_of lv34 Tryz.func34 rfl rfl (by kernel_rfl) rfl ?_
  refine ⟨{ i : Nat // i ≤ x.bls.length ∧ bellsBad x.own.length (x.bls.take i) (x.bls.drop i) = bc }, fun i => ⟨frL [(0, polP x), (3, di i.1)], hpL [], 96, 0⟩, fun i => x.bls.length - i.1, ⟨0, by omega, hbc⟩,
    le_of [] rfl rfl rfl rfl trivial (tellFr_x rfl ⟨DLe.refl _, DLe.refl _, DLe.refl _, DLe.refl _, trivial⟩ (tellFr_v rfl rfl trivial)), ?_⟩
  rintro ⟨i, hi, hall⟩
  by_cases h3 : i < x.bls.length
  · rw [bells_step _ _ _ h3] at hall
    have c1 := c_spec_l6Ends x hs (x.bls.getD i ⟨0, 0⟩).frm (x.bls.getD i ⟨0, 0⟩).to
    obtain ⟨b, hb⟩ : ∃ b, b = bellBad x.own.length (x.bls.getD i ⟨0, 0⟩) (x.bls.take i) := ⟨_, rfl⟩
    rw [← hb] at hall
    unfold bellBad at hb
    generalize endsF x.own.length (x.bls.getD i ⟨0, 0⟩).frm (x.bls.getD i ⟨0, 0⟩).to = e at hb c1
    have stop : ∀ r : Int, b = r → r ≠ 0 → r = v := fun r e1 e2 => by
      rw [e1, if_neg e2] at hall
      rw [if_neg (by rw [← hall]; exact e2), ← hall] at hv
      exact hv
    refine bsplit_of_true (decide_eq_true (by show (i : Int) < (x.bls.length : Int); omega)) ?_
    refine ask_intro ⟨by omega, by show (i : Int) < (x.bls.length : Int); omega, rfl⟩ ?_
    refine .inl ⟨_, _, rfl, c1, rfl, ?_⟩
    refine bsplit_intro (fun h4 => ?_) (fun h4 => ?_)
    · have h4 : ¬ e = 0 := by simpa using h4
      rw [if_neg h4] at hb
      exact ⟨⟨congrArg (Value.int .i64) (stop e hb h4), trivial⟩, rfl⟩
    have h4 : e = 0 := by simpa using h4
    rw [if_pos h4] at hb
    have hlt : (x.bls.take i).length = i := by rw [List.length_take]; omega
    refine ⟨{ k : Nat // k ≤ i ∧ ((x.bls.take i).drop k).any (fun a => a == x.bls.getD i ⟨0, 0⟩) = (x.bls.take i).any (fun a => a == x.bls.getD i ⟨0, 0⟩) },
      fun k => ⟨frL [(0, polP x), (3, di i), (4, .ptr 64 0), (6, di k.1)], hpL [(64, .box 57 [di (x.bls.getD i ⟨0, 0⟩).frm, di (x.bls.getD i ⟨0, 0⟩).to])], 96, 0⟩, fun k => i - k.1, ⟨0, by omega, by rw [List.drop_zero]⟩,
      le_of [(64, 4416)] rfl rfl rfl rfl (tellHp_box rfl rfl ⟨rfl, rfl, trivial⟩ tellHp_nil) (tellFr_x rfl ⟨DLe.refl _, DLe.refl _, DLe.refl _, DLe.refl _, trivial⟩ (tellFr_v rfl rfl (tellFr_ptr rfl rfl (tellFr_v rfl rfl trivial)))), ?_⟩
    rintro ⟨k, hk, hall2⟩
    by_cases h6 : k < i
    rotate_left
    · rw [List.drop_eq_nil_of_le (by omega)] at hall2
      rw [← hall2] at hb
      have hb : b = 0 := hb
      rw [if_pos hb] at hall
      refine bsplit_of_false (decide_eq_false (by show ¬ (k : Int) < (i : Int); omega)) ?_
      exact ⟨⟨i + 1, by omega, hall⟩, le_of [] rfl rfl rfl rfl trivial (tellFr_x rfl ⟨DLe.refl _, DLe.refl _, DLe.refl _, DLe.refl _, trivial⟩ (tellFr_v rfl (congrArg (Value.int .i64) (wrap1 h3 (by omega))) trivial)), by show x.bls.length - (i + 1) < x.bls.length - i; omega⟩
    rw [drop_anyG ⟨0, 0⟩ _ _ k (by omega), getD_take _ _ _ _ h6] at hall2
    have hq : ([(x.bls.getD k ⟨0, 0⟩).frm, (x.bls.getD k ⟨0, 0⟩).to] == [(x.bls.getD i ⟨0, 0⟩).frm, (x.bls.getD i ⟨0, 0⟩).to]) = (x.bls.getD k ⟨0, 0⟩ == x.bls.getD i ⟨0, 0⟩) := by
      have := congrFun (bellBeq (x.bls.getD k ⟨0, 0⟩)) (x.bls.getD i ⟨0, 0⟩)
      rw [this]
      by_cases h : x.bls.getD i ⟨0, 0⟩ = x.bls.getD k ⟨0, 0⟩
      · rw [h]
      · rw [beq_eq_false_iff_ne.2 h, beq_eq_false_iff_ne.2 (Ne.symm h)]
    rw [← hq] at hall2
    refine bsplit_of_true (decide_eq_true (by show (k : Int) < (i : Int); omega)) ?_
    refine ask_intro ⟨by omega, by show (k : Int) < (x.bls.length : Int); omega, rfl⟩ ?_
    refine chk_intro (by kernel_rfl) ?_
    refine bsplit_intro (fun h7 => ?_) (fun h7 => ?_)
    · rw [show ([(x.bls.getD k ⟨0, 0⟩).frm, (x.bls.getD k ⟨0, 0⟩).to] == [(x.bls.getD i ⟨0, 0⟩).frm, (x.bls.getD i ⟨0, 0⟩).to]) = true from h7, Bool.true_or] at hall2
      rw [← hall2] at hb
      exact ⟨⟨congrArg (Value.int .i64) (stop 6 hb (by decide)), trivial⟩, rfl⟩
    · rw [show ([(x.bls.getD k ⟨0, 0⟩).frm, (x.bls.getD k ⟨0, 0⟩).to] == [(x.bls.getD i ⟨0, 0⟩).frm, (x.bls.getD i ⟨0, 0⟩).to]) = false from h7, Bool.false_or] at hall2
      exact ⟨⟨k + 1, by omega, hall2⟩, le_of [(64, 64)] rfl rfl rfl rfl (tellHp_box rfl rfl ⟨rfl, rfl, trivial⟩ tellHp_nil) (tellFr_x rfl ⟨DLe.refl _, DLe.refl _, DLe.refl _, DLe.refl _, trivial⟩ (tellFr_v rfl rfl (tellFr_ptr rfl rfl (tellFr_v rfl (congrArg (Value.int .i64) (wrap1 (Nat.lt_trans h6 h3) (by omega))) trivial)))), by show i - (k + 1) < i - k; omega⟩
  rw [List.drop_eq_nil_of_le (by omega)] at hall
  have hall : 0 = bc := hall
  rw [if_pos hall.symm] at hv
  refine bsplit_of_false (decide_eq_false (by show ¬ (i : Int) < (x.bls.length : Int); omega)) ?_
  refine bsplit_intro (fun h => ?_) (fun h => ?_)
  · repeat' (first | refine bsplit_true ?_ | refine bsplit_false ?_)
    have h : decide ((x.pln.length : Int) < 1) = true := h
    rw [show inR (x.pln.length : Int) 1 8 = false from by unfold inR; have := of_decide_eq_true h; simp; omega] at hv
    exact ⟨⟨congrArg (Value.int .i64) hv, trivial⟩, rfl⟩
  repeat' (first | refine bsplit_true ?_ | refine bsplit_false ?_)
  refine bsplit_intro (fun h2 => ?_) (fun h2 => ?_)
  · have h2 : decide ((x.pln.length : Int) > 8) = true := h2
    rw [show inR (x.pln.length : Int) 1 8 = false from by unfold inR; have := of_decide_eq_true h2; simp; omega] at hv
    exact ⟨⟨congrArg (Value.int .i64) hv, trivial⟩, rfl⟩
  have hn1 : ¬ (x.pln.length : Int) < 1 := of_decide_eq_false h
  have hn2 : ¬ (x.pln.length : Int) > 8 := of_decide_eq_false h2
  rw [show inR (x.pln.length : Int) 1 8 = true from inR_iff.2 ⟨by omega, by omega⟩] at hv
  have hv : pc = v := hv
  refine ⟨{ i : Nat // i ≤ x.pln.length ∧ firstNZ ((x.pln.drop i).map (slotBad x.own.length)) = v }, fun i => ⟨frL [(0, polP x), (7, di i.1)], hpL [], 96, 0⟩, fun i => x.pln.length - i.1, ⟨0, by omega, by rw [← hv, ← hpc]; rfl⟩,
    le_of [] rfl rfl rfl rfl trivial (tellFr_x rfl ⟨DLe.refl _, DLe.refl _, DLe.refl _, DLe.refl _, trivial⟩ (tellFr_v rfl rfl trivial)), ?_⟩
  rintro ⟨j, hj, hall3⟩
  by_cases h1 : j < x.pln.length
  · rw [map_drop ⟨0, 0⟩ _ _ _ h1] at hall3
    refine bsplit_of_true (decide_eq_true (by show (j : Int) < (x.pln.length : Int); omega)) ?_
    refine ask_intro ⟨by omega, by show (j : Int) < (x.pln.length : Int); omega, rfl⟩ ?_
    refine .inl ⟨_, _, rfl, c_spec_l6Guest x hs (x.pln.getD j ⟨0, 0⟩).guest, rfl, ?_⟩
    refine bsplit_intro (fun h2 => ?_) (fun h2 => ?_)
    · have e : slotBad x.own.length (x.pln.getD j ⟨0, 0⟩) = 4 := by
        unfold slotBad
        rw [show (!guestB x.own.length (x.pln.getD j ⟨0, 0⟩).guest) = true from h2]; rfl
      rw [e] at hall3
      exact ⟨⟨congrArg (Value.int .i64) hall3, trivial⟩, rfl⟩
    refine ask_intro ⟨by omega, by show (j : Int) < (x.pln.length : Int); omega, rfl⟩ ?_
    refine .inl ⟨_, _, rfl, c_spec_l1In (x.pln.getD j ⟨0, 0⟩).steps 1 50, rfl, ?_⟩
    refine bsplit_intro (fun h3 => ?_) (fun h3 => ?_)
    · have e : slotBad x.own.length (x.pln.getD j ⟨0, 0⟩) = 3 := by
        unfold slotBad
        rw [show (!guestB x.own.length (x.pln.getD j ⟨0, 0⟩).guest) = false from h2, show (!inR (x.pln.getD j ⟨0, 0⟩).steps 1 50) = true from h3]; rfl
      rw [e] at hall3
      exact ⟨⟨congrArg (Value.int .i64) hall3, trivial⟩, rfl⟩
    have e : slotBad x.own.length (x.pln.getD j ⟨0, 0⟩) = 0 := by
      unfold slotBad
      rw [show (!guestB x.own.length (x.pln.getD j ⟨0, 0⟩).guest) = false from h2, show (!inR (x.pln.getD j ⟨0, 0⟩).steps 1 50) = false from h3]; rfl
    rw [e] at hall3
    exact ⟨⟨j + 1, by omega, hall3⟩, le_of [] rfl rfl rfl rfl trivial (tellFr_x rfl ⟨DLe.refl _, DLe.refl _, DLe.refl _, DLe.refl _, trivial⟩ (tellFr_v rfl (congrArg (Value.int .i64) (wrap1 h1 (by omega))) trivial)), by show x.pln.length - (j + 1) < x.pln.length - j; omega⟩
  · rw [List.drop_eq_nil_of_le (by omega)] at hall3
    refine bsplit_of_false (decide_eq_false (by show ¬ (j : Int) < (x.pln.length : Int); omega)) ?_
    exact ⟨⟨congrArg (Value.int .i64) hall3, trivial⟩, rfl⟩
theorem c_spec_l6Fault (x : PolM) (hs : x.small) : FnOK Tryz.prog 18 [polP x] (ri (polFault x)) := by
  have c1 := c_spec_l6Owns x hs
  have c2 := c_spec_l6Lanes x hs
  have c3 := c_spec_l6Rest x hs
  generalize hv : polFault x = v
  have hv : (if ownBad x.own = 0 then (if lanesFault x = 0 then restFault x else lanesFault x) else ownBad x.own) = v := by
    rw [← hv]
    unfold polFault lanesFault restFault
    cases (decide (x.lns.length > 4) || decide (x.bls.length > 4)) with
    | true => simp
    | false => rfl
  generalize ownBad x.own = e1 at *
  generalize lanesFault x = e2 at *
  generalize restFault x = e3 at *
  refine fn_of lv18 Tryz.func18 rfl rfl (by kernel_rfl) rfl ?_
  refine .inl ⟨_, _, rfl, c1, rfl, ?_⟩
  refine bsplit_intro (fun h => ?_) (fun h => ?_)
  · rw [if_neg (by simpa using h)] at hv
    exact ⟨⟨congrArg (Value.int .i64) hv, trivial⟩, rfl⟩
  rw [if_pos (by simpa using h)] at hv
  refine .inl ⟨_, _, rfl, c2, rfl, ?_⟩
  refine bsplit_intro (fun h2 => ?_) (fun h2 => ?_)
  · rw [if_neg (by simpa using h2)] at hv
    exact ⟨⟨congrArg (Value.int .i64) hv, trivial⟩, rfl⟩
  rw [if_pos (by simpa using h2)] at hv
  refine .inl ⟨_, _, rfl, c3, rfl, ?_⟩
  exact ⟨⟨congrArg (Value.int .i64) hv, trivial⟩, rfl⟩
theorem c_spec_PolicyFault (x : PolM) (hs : x.small) : FnOK Tryz.prog 14 [polLV x] (ri (polFault x)) := by
  refine fn_of lv14 Tryz.func14 rfl rfl (by kernel_rfl) rfl ?_
  refine .inl ⟨_, _, rfl, c_spec_l6Fault x hs, rfl, ?_⟩
  exact ⟨⟨rfl, trivial⟩, rfl⟩
end Go.Proofs.YtojaakpnpdnbhaaGreatDoor.L

/- What the law functions compute that mark policies: contracts. -/
set_option linter.unusedVariables false
set_option linter.unusedSimpArgs false
set_option maxRecDepth 100000
namespace Go.Proofs.YtojaakpnpdnbhaaGreatDoor.L
open Go.RowKit
abbrev rowLane (l : List LaneM) : Ent := .row 55 5 l.length (lanesF l)
abbrev laneMk (k : Int) (j : Nat) : List D := [.v (.int .i64 (k + 5 * (j : Int))), .v (.int .i64 (k + 5 * (j : Int) + 1)), .v (.int .i64 (k + 5 * (j : Int) + 2)), .v (.int .i64 (k + 5 * (j : Int) + 3)), .v (.int .i64 (k + 5 * (j : Int) + 4))]
set_option maxHeartbeats 1600000 in
theorem c_laws_markLaneS (l : List LaneM) (k : Int) (hl : l.length ≤ 109951162777) (hk : 0 ≤ k) (hk2 : k ≤ 1099511627776) :
    MutOK Tryz.prog 50 [.row 0, di k] 1 [(0, rowLane l)] (di (k + 5 * l.length)) 1 [(0, .row 55 5 l.length (laneMk k))] := by
  refine mut_fn_of lv50 Tryz.func50 rfl rfl (by kernel_rfl) rfl [] ?_
  refine ⟨{ i : Nat // i ≤ l.length }, fun i => ⟨frL [(0, .row 0), (1, di (k + 5 * (i.1 : Int))), (5, di i.1)], hpL [(0, .row 55 5 l.length fun j => if j < i.1 then laneMk k j else lanesF l j)], 1, 1⟩, fun i => l.length - i.1, ⟨0, by omega⟩,
    le_of [] rfl rfl rfl rfl (tellHp_row rfl rfl rfl (fun i hi => rfl) tellHp_nil) (tellFr_row rfl rfl (tellFr_v rfl (congrArg (Value.int .i64) (?_ : k = k + 5 * ((0 : Nat) : Int))) (tellFr_v rfl rfl trivial))), ?_⟩
  · omega
  rintro ⟨i, hi⟩
  refine bsplit_intro (fun h => ?_) (fun h => ?_)
  · have h : i < l.length := by simp at h; exact h
    have w1 : IntKind.i64.wrap (k + 5 * (i : Int) + 1) = k + 5 * (i : Int) + 1 := (wrap_i64 _ (by omega) (by omega)).trans (by omega)
    have w2 : IntKind.i64.wrap (k + 5 * (i : Int) + 1 + 1) = k + 5 * (i : Int) + 2 := (wrap_i64 _ (by omega) (by omega)).trans (by omega)
    have w3 : IntKind.i64.wrap (k + 5 * (i : Int) + 2 + 1) = k + 5 * (i : Int) + 3 := (wrap_i64 _ (by omega) (by omega)).trans (by omega)
    have w4 : IntKind.i64.wrap (k + 5 * (i : Int) + 3 + 1) = k + 5 * (i : Int) + 4 := (wrap_i64 _ (by omega) (by omega)).trans (by omega)
    refine ask_intro ⟨by omega, by show (i : Int) < (l.length : Int); omega⟩ ?_
    refine ask_intro (by show i < l.length; exact h) ?_
    refine ask_intro ⟨by omega, by show (i : Int) < (l.length : Int); omega⟩ ?_
    refine ask_intro (by show i < l.length; exact h) ?_
    refine ask_intro ⟨by omega, by show (i : Int) < (l.length : Int); omega⟩ ?_
    refine ask_intro (by show i < l.length; exact h) ?_
    refine ask_intro ⟨by omega, by show (i : Int) < (l.length : Int); omega⟩ ?_
    refine ask_intro (by show i < l.length; exact h) ?_
    refine ask_intro ⟨by omega, by show (i : Int) < (l.length : Int); omega⟩ ?_
    refine ask_intro (by show i < l.length; exact h) ?_
    refine ⟨⟨i + 1, by omega⟩, le_of [] rfl rfl rfl rfl (tellHp_row rfl rfl rfl (fun j hj => ?_) tellHp_nil) (tellFr_row rfl rfl (tellFr_v rfl (congrArg (Value.int .i64) (?_ : IntKind.i64.wrap (IntKind.i64.wrap (IntKind.i64.wrap (IntKind.i64.wrap (IntKind.i64.wrap (k + 5 * (i : Int) + 1) + 1) + 1) + 1) + 1) = k + 5 * ((i + 1 : Nat) : Int))) (tellFr_v rfl (congrArg (Value.int .i64) (?_ : IntKind.i64.wrap ((i : Int) + 1) = ((i + 1 : Nat) : Int))) trivial))), by show l.length - (i + 1) < l.length - i; omega⟩
    · show (if j = i then splice (if j = i then splice (if j = i then splice (if j = i then splice (if j = i then splice (if j < i then laneMk k j else lanesF l j) 0 [D.v (.int .i64 (k + 5 * (i : Int)))] else (if j < i then laneMk k j else lanesF l j)) 1 [D.v (.int .i64 (IntKind.i64.wrap (k + 5 * (i : Int) + 1)))] else (if j = i then splice (if j < i then laneMk k j else lanesF l j) 0 [D.v (.int .i64 (k + 5 * (i : Int)))] else (if j < i then laneMk k j else lanesF l j))) 2 [D.v (.int .i64 (IntKind.i64.wrap (IntKind.i64.wrap (k + 5 * (i : Int) + 1) + 1)))] else (if j = i then splice (if j = i then splice (if j < i then laneMk k j else lanesF l j) 0 [D.v (.int .i64 (k + 5 * (i : Int)))] else (if j < i then laneMk k j else lanesF l j)) 1 [D.v (.int .i64 (IntKind.i64.wrap (k + 5 * (i : Int) + 1)))] else (if j = i then splice (if j < i then laneMk k j else lanesF l j) 0 [D.v (.int .i64 (k + 5 * (i : Int)))] else (if j < i then laneMk k j else lanesF l j)))) 3 [D.v (.int .i64 (IntKind.i64.wrap (IntKind.i64.wrap (IntKind.i64.wrap (k + 5 * (i : Int) + 1) + 1) + 1)))] else (if j = i then splice (if j = i then splice (if j = i then splice (if j < i then laneMk k j else lanesF l j) 0 [D.v (.int .i64 (k + 5 * (i : Int)))] else (if j < i then laneMk k j else lanesF l j)) 1 [D.v (.int .i64 (IntKind.i64.wrap (k + 5 * (i : Int) + 1)))] else (if j = i then splice (if j < i then laneMk k j else lanesF l j) 0 [D.v (.int .i64 (k + 5 * (i : Int)))] else (if j < i then laneMk k j else lanesF l j))) 2 [D.v (.int .i64 (IntKind.i64.wrap (IntKind.i64.wrap (k + 5 * (i : Int) + 1) + 1)))] else (if j = i then splice (if j = i then splice (if j < i then laneMk k j else lanesF l j) 0 [D.v (.int .i64 (k + 5 * (i : Int)))] else (if j < i then laneMk k j else lanesF l j)) 1 [D.v (.int .i64 (IntKind.i64.wrap (k + 5 * (i : Int) + 1)))] else (if j = i then splice (if j < i then laneMk k j else lanesF l j) 0 [D.v (.int .i64 (k + 5 * (i : Int)))] else (if j < i then laneMk k j else lanesF l j))))) 4 [D.v (.int .i64 (IntKind.i64.wrap (IntKind.i64.wrap (IntKind.i64.wrap (IntKind.i64.wrap (k + 5 * (i : Int) + 1) + 1) + 1) + 1)))] else (if j = i then splice (if j = i then splice (if j = i then splice (if j = i then splice (if j < i then laneMk k j else lanesF l j) 0 [D.v (.int .i64 (k + 5 * (i : Int)))] else (if j < i then laneMk k j else lanesF l j)) 1 [D.v (.int .i64 (IntKind.i64.wrap (k + 5 * (i : Int) + 1)))] else (if j = i then splice (if j < i then laneMk k j else lanesF l j) 0 [D.v (.int .i64 (k + 5 * (i : Int)))] else (if j < i then laneMk k j else lanesF l j))) 2 [D.v (.int .i64 (IntKind.i64.wrap (IntKind.i64.wrap (k + 5 * (i : Int) + 1) + 1)))] else (if j = i then splice (if j = i then splice (if j < i then laneMk k j else lanesF l j) 0 [D.v (.int .i64 (k + 5 * (i : Int)))] else (if j < i then laneMk k j else lanesF l j)) 1 [D.v (.int .i64 (IntKind.i64.wrap (k + 5 * (i : Int) + 1)))] else (if j = i then splice (if j < i then laneMk k j else lanesF l j) 0 [D.v (.int .i64 (k + 5 * (i : Int)))] else (if j < i then laneMk k j else lanesF l j)))) 3 [D.v (.int .i64 (IntKind.i64.wrap (IntKind.i64.wrap (IntKind.i64.wrap (k + 5 * (i : Int) + 1) + 1) + 1)))] else (if j = i then splice (if j = i then splice (if j = i then splice (if j < i then laneMk k j else lanesF l j) 0 [D.v (.int .i64 (k + 5 * (i : Int)))] else (if j < i then laneMk k j else lanesF l j)) 1 [D.v (.int .i64 (IntKind.i64.wrap (k + 5 * (i : Int) + 1)))] else (if j = i then splice (if j < i then laneMk k j else lanesF l j) 0 [D.v (.int .i64 (k + 5 * (i : Int)))] else (if j < i then laneMk k j else lanesF l j))) 2 [D.v (.int .i64 (IntKind.i64.wrap (IntKind.i64.wrap (k + 5 * (i : Int) + 1) + 1)))] else (if j = i then splice (if j = i then splice (if j < i then laneMk k j else lanesF l j) 0 [D.v (.int .i64 (k + 5 * (i : Int)))] else (if j < i then laneMk k j else lanesF l j)) 1 [D.v (.int .i64 (IntKind.i64.wrap (k + 5 * (i : Int) + 1)))] else (if j = i then splice (if j < i then laneMk k j else lanesF l j) 0 [D.v (.int .i64 (k + 5 * (i : Int)))] else (if j < i then laneMk k j else lanesF l j)))))) = if j < i + 1 then laneMk k j else lanesF l j
      by_cases h1 : j = i
      · subst h1
        rw [if_pos (show j < j + 1 by omega)]
        simp only [eq_self, if_true, Nat.lt_irrefl, if_false, w1, w2, w3, w4]
        rfl
      · simp only [h1, if_false]
        by_cases h2 : j < i
        · rw [if_pos h2, if_pos (by omega)]
        · rw [if_neg h2, if_neg (by omega)]
    · simp only [w1, w2, w3, w4]
      rw [wrap_i64 _ (by omega) (by omega)]; omega
    · exact wrap_i64 (i + 1) (by omega) (by omega)
  · simp at h
    have e : i = l.length := by omega
    subst e
    refine chk_intro (by kernel_rfl) ⟨tellV_v rfl rfl, tellHp_row rfl rfl rfl (fun j hj => ?_) tellHp_nil⟩
    show (if j < l.length then laneMk k j else lanesF l j) = laneMk k j
    rw [if_pos hj]
abbrev rowBell (l : List BellM) : Ent := .row 57 2 l.length (bellsF l)
abbrev bellMk (k : Int) (j : Nat) : List D := [.v (.int .i64 (k + 2 * (j : Int))), .v (.int .i64 (k + 2 * (j : Int) + 1))]
set_option maxHeartbeats 1600000 in
theorem c_laws_markBellS (l : List BellM) (k : Int) (hl : l.length ≤ 109951162777) (hk : 0 ≤ k) (hk2 : k ≤ 1099511627776) :
    MutOK Tryz.prog 51 [.row 0, di k] 1 [(0, rowBell l)] (di (k + 2 * l.length)) 1 [(0, .row 57 2 l.length (bellMk k))] := by
  refine mut_fn_of lv51 Tryz.func51 rfl rfl (by kernel_rfl) rfl [] ?_
  refine ⟨{ i : Nat // i ≤ l.length }, fun i => ⟨frL [(0, .row 0), (1, di (k + 2 * (i.1 : Int))), (5, di i.1)], hpL [(0, .row 57 2 l.length fun j => if j < i.1 then bellMk k j else bellsF l j)], 1, 1⟩, fun i => l.length - i.1, ⟨0, by omega⟩,
    le_of [] rfl rfl rfl rfl (tellHp_row rfl rfl rfl (fun i hi => rfl) tellHp_nil) (tellFr_row rfl rfl (tellFr_v rfl (congrArg (Value.int .i64) (?_ : k = k + 2 * ((0 : Nat) : Int))) (tellFr_v rfl rfl trivial))), ?_⟩
  · omega
  rintro ⟨i, hi⟩
  refine bsplit_intro (fun h => ?_) (fun h => ?_)
  · have h : i < l.length := by simp at h; exact h
    have w1 : IntKind.i64.wrap (k + 2 * (i : Int) + 1) = k + 2 * (i : Int) + 1 := (wrap_i64 _ (by omega) (by omega)).trans (by omega)
    refine ask_intro ⟨by omega, by show (i : Int) < (l.length : Int); omega⟩ ?_
    refine ask_intro (by show i < l.length; exact h) ?_
    refine ask_intro ⟨by omega, by show (i : Int) < (l.length : Int); omega⟩ ?_
    refine ask_intro (by show i < l.length; exact h) ?_
    refine ⟨⟨i + 1, by omega⟩, le_of [] rfl rfl rfl rfl (tellHp_row rfl rfl rfl (fun j hj => ?_) tellHp_nil) (tellFr_row rfl rfl (tellFr_v rfl (congrArg (Value.int .i64) (?_ : IntKind.i64.wrap (IntKind.i64.wrap (k + 2 * (i : Int) + 1) + 1) = k + 2 * ((i + 1 : Nat) : Int))) (tellFr_v rfl (congrArg (Value.int .i64) (?_ : IntKind.i64.wrap ((i : Int) + 1) = ((i + 1 : Nat) : Int))) trivial))), by show l.length - (i + 1) < l.length - i; omega⟩
    · show (if j = i then splice (if j = i then splice (if j < i then bellMk k j else bellsF l j) 0 [D.v (.int .i64 (k + 2 * (i : Int)))] else (if j < i then bellMk k j else bellsF l j)) 1 [D.v (.int .i64 (IntKind.i64.wrap (k + 2 * (i : Int) + 1)))] else (if j = i then splice (if j < i then bellMk k j else bellsF l j) 0 [D.v (.int .i64 (k + 2 * (i : Int)))] else (if j < i then bellMk k j else bellsF l j))) = if j < i + 1 then bellMk k j else bellsF l j
      by_cases h1 : j = i
      · subst h1
        rw [if_pos (show j < j + 1 by omega)]
        simp only [eq_self, if_true, Nat.lt_irrefl, if_false, w1]
        rfl
      · simp only [h1, if_false]
        by_cases h2 : j < i
        · rw [if_pos h2, if_pos (by omega)]
        · rw [if_neg h2, if_neg (by omega)]
    · simp only [w1]
      rw [wrap_i64 _ (by omega) (by omega)]; omega
    · exact wrap_i64 (i + 1) (by omega) (by omega)
  · simp at h
    have e : i = l.length := by omega
    subst e
    refine chk_intro (by kernel_rfl) ⟨tellV_v rfl rfl, tellHp_row rfl rfl rfl (fun j hj => ?_) tellHp_nil⟩
    show (if j < l.length then bellMk k j else bellsF l j) = bellMk k j
    rw [if_pos hj]
abbrev rowSlot (l : List SlotM) : Ent := .row 59 2 l.length (slotsF l)
abbrev slotMk (k : Int) (j : Nat) : List D := [.v (.int .i64 (k + 2 * (j : Int))), .v (.int .i64 (k + 2 * (j : Int) + 1))]
set_option maxHeartbeats 1600000 in
theorem c_laws_markSlotS (l : List SlotM) (k : Int) (hl : l.length ≤ 109951162777) (hk : 0 ≤ k) (hk2 : k ≤ 1099511627776) :
    MutOK Tryz.prog 52 [.row 0, di k] 1 [(0, rowSlot l)] (di (k + 2 * l.length)) 1 [(0, .row 59 2 l.length (slotMk k))] := by
  refine mut_fn_of lv52 Tryz.func52 rfl rfl (by kernel_rfl) rfl [] ?_
  refine ⟨{ i : Nat // i ≤ l.length }, fun i => ⟨frL [(0, .row 0), (1, di (k + 2 * (i.1 : Int))), (5, di i.1)], hpL [(0, .row 59 2 l.length fun j => if j < i.1 then slotMk k j else slotsF l j)], 1, 1⟩, fun i => l.length - i.1, ⟨0, by omega⟩,
    le_of [] rfl rfl rfl rfl (tellHp_row rfl rfl rfl (fun i hi => rfl) tellHp_nil) (tellFr_row rfl rfl (tellFr_v rfl (congrArg (Value.int .i64) (?_ : k = k + 2 * ((0 : Nat) : Int))) (tellFr_v rfl rfl trivial))), ?_⟩
  · omega
  rintro ⟨i, hi⟩
  refine bsplit_intro (fun h => ?_) (fun h => ?_)
  · have h : i < l.length := by simp at h; exact h
    have w1 : IntKind.i64.wrap (k + 2 * (i : Int) + 1) = k + 2 * (i : Int) + 1 := (wrap_i64 _ (by omega) (by omega)).trans (by omega)
    refine ask_intro ⟨by omega, by show (i : Int) < (l.length : Int); omega⟩ ?_
    refine ask_intro (by show i < l.length; exact h) ?_
    refine ask_intro ⟨by omega, by show (i : Int) < (l.length : Int); omega⟩ ?_
    refine ask_intro (by show i < l.length; exact h) ?_
    refine ⟨⟨i + 1, by omega⟩, le_of [] rfl rfl rfl rfl (tellHp_row rfl rfl rfl (fun j hj => ?_) tellHp_nil) (tellFr_row rfl rfl (tellFr_v rfl (congrArg (Value.int .i64) (?_ : IntKind.i64.wrap (IntKind.i64.wrap (k + 2 * (i : Int) + 1) + 1) = k + 2 * ((i + 1 : Nat) : Int))) (tellFr_v rfl (congrArg (Value.int .i64) (?_ : IntKind.i64.wrap ((i : Int) + 1) = ((i + 1 : Nat) : Int))) trivial))), by show l.length - (i + 1) < l.length - i; omega⟩
    · show (if j = i then splice (if j = i then splice (if j < i then slotMk k j else slotsF l j) 0 [D.v (.int .i64 (k + 2 * (i : Int)))] else (if j < i then slotMk k j else slotsF l j)) 1 [D.v (.int .i64 (IntKind.i64.wrap (k + 2 * (i : Int) + 1)))] else (if j = i then splice (if j < i then slotMk k j else slotsF l j) 0 [D.v (.int .i64 (k + 2 * (i : Int)))] else (if j < i then slotMk k j else slotsF l j))) = if j < i + 1 then slotMk k j else slotsF l j
      by_cases h1 : j = i
      · subst h1
        rw [if_pos (show j < j + 1 by omega)]
        simp only [eq_self, if_true, Nat.lt_irrefl, if_false, w1]
        rfl
      · simp only [h1, if_false]
        by_cases h2 : j < i
        · rw [if_pos h2, if_pos (by omega)]
        · rw [if_neg h2, if_neg (by omega)]
    · simp only [w1]
      rw [wrap_i64 _ (by omega) (by omega)]; omega
    · exact wrap_i64 (i + 1) (by omega) (by omega)
  · simp at h
    have e : i = l.length := by omega
    subst e
    refine chk_intro (by kernel_rfl) ⟨tellV_v rfl rfl, tellHp_row rfl rfl rfl (fun j hj => ?_) tellHp_nil⟩
    show (if j < l.length then slotMk k j else slotsF l j) = slotMk k j
    rw [if_pos hj]
/-! ## rows of rows -/
abbrev nestE (l : List (List Int)) : Ent := .nest 44 2 1 l.length (lenF l) (inF l) []
abbrev offK (l : List (List Int)) (k : Int) (i : Nat) : Int := k + (sumN (l.take i) : Nat)
abbrev nestMk (l : List (List Int)) (k : Int) (i j : Nat) : List D := intsF (markL (offK l k i) (l.getD i []).length) j
theorem c_laws_markInt64SS (l : List (List Int)) (k : Int) (hl : l.length ≤ 1048576) (hs : sumN l ≤ 1048576) (hk : 0 ≤ k) (hk2 : k ≤ 1073741824) :
    MutOK Tryz.prog 49 [.row 0, di k] 1 [(0, nestE l)] (di (k + (sumN l : Nat))) 1 [(0, .nest 44 2 1 l.length (lenF l) (nestMk l k) [])] := by
  refine mut_fn_of lv49 Tryz.func49 rfl rfl (by kernel_rfl) rfl [] ?_
  refine ⟨{ i : Nat // i ≤ l.length }, fun i => ⟨frL [(0, .row 0), (1, di (offK l k i.1)), (5, di i.1)], hpL [(0, .nest 44 2 1 l.length (lenF l) (fun j => if j < i.1 then nestMk l k j else inF l j) [])], 1, 1⟩, fun i => l.length - i.1, ⟨0, by omega⟩,
    le_of [] rfl rfl rfl rfl (tellHp_nest rfl rfl rfl (fun i hi => ⟨rfl, fun j hj => rfl⟩) tellHp_nil) (tellFr_row rfl rfl (tellFr_v rfl (congrArg (Value.int .i64) (?_ : k = offK l k 0)) (tellFr_v rfl rfl trivial))), ?_⟩
  · simp [offK, sumN]
  rintro ⟨i, hi⟩
  refine ask_intro trivial ?_
  refine bsplit_intro (fun h => ?_) (fun h => ?_)
  · have h : i < l.length := by simp at h; exact h
    have e1 := sumN_take l i h
    have e2 := sumN_le l i
    have e3 := sumN_get l i h
    refine ask_intro ⟨by omega, by show (i : Int) < (l.length : Int); omega⟩ ?_
    refine ask_intro (by show i < l.length; exact h) ?_
    have cm := (c_laws_markInt64S (l.getD i []) (offK l k i) (by omega) (by show 0 ≤ k + (sumN (l.take i) : Nat); omega) (by show k + (sumN (l.take i) : Nat) ≤ _; omega)).rows (hp0' := [(0, .row 2 1 (lenF l i) (if i < i then nestMk l k i else inF l i))]) ⟨rfl, ⟨rfl, rfl, rfl, fun j hj => by rw [if_neg (Nat.lt_irrefl i)]⟩, trivial⟩
    refine .inr ⟨rfl, use_mut ⟨_, _, _, _, _, _, rfl, rfl, cm, rfl, ?_⟩⟩
    refine ⟨⟨i + 1, by omega⟩, le_of [] rfl rfl rfl rfl (tellHp_hole rfl rfl rfl rfl rfl rfl ⟨rfl, fun j hj => ?_⟩ (fun j hj hne => ⟨rfl, fun q hq => ?_⟩) tellHp_nil) (tellFr_row rfl rfl (tellFr_v rfl (congrArg (Value.int .i64) (?_ : offK l k i + ((l.getD i []).length : Int) = offK l k (i + 1))) (tellFr_v rfl (congrArg (Value.int .i64) (?_ : IntKind.i64.wrap ((i : Int) + 1) = ((i + 1 : Nat) : Int))) trivial))), by show l.length - (i + 1) < l.length - i; omega⟩
    · show _ = (if i < i + 1 then nestMk l k i else inF l i) j
      rw [if_pos (by omega)]
    · show (if j < i then nestMk l k j else inF l j) q = (if j < i + 1 then nestMk l k j else inF l j) q
      have hne : j ≠ i := hne
      by_cases h2 : j < i
      · rw [if_pos h2, if_pos (by omega)]
      · rw [if_neg h2, if_neg (by omega)]
    · show k + (sumN (l.take i) : Nat) + ((l.getD i []).length : Int) = k + (sumN (l.take (i + 1)) : Nat)
      omega
    · exact wrap_i64 (i + 1) (by omega) (by omega)
  · simp at h
    have e : i = l.length := by omega
    subst e
    refine chk_intro (by kernel_rfl) ⟨tellV_v rfl ?_, tellHp_nest rfl rfl rfl (fun j hj => ⟨rfl, fun q hq => ?_⟩) tellHp_nil⟩
    · show Value.int .i64 (k + (sumN (l.take l.length) : Nat)) = _
      rw [List.take_length]
    · show (if j < l.length then nestMk l k j else inF l j) q = nestMk l k j q
      rw [if_pos hj]
end Go.Proofs.YtojaakpnpdnbhaaGreatDoor.L

/- What the law functions compute that mark a policy: contracts. -/
set_option linter.unusedVariables false
set_option linter.unusedSimpArgs false
set_option maxRecDepth 100000
namespace Go.Proofs.YtojaakpnpdnbhaaGreatDoor.L
open Go.RowKit
abbrev polRows (x : PolM) : List (Nat × Ent) := [(0, nestE x.own), (1, rowLane x.lns), (2, rowBell x.bls), (3, rowSlot x.pln)]
abbrev polK1 (x : PolM) (k : Int) : Int := k + (sumN x.own : Nat)
abbrev polK2 (x : PolM) (k : Int) : Int := polK1 x k + 5 * (x.lns.length : Int)
abbrev polK3 (x : PolM) (k : Int) : Int := polK2 x k + 2 * (x.bls.length : Int)
abbrev polK (x : PolM) (k : Int) : Int := polK3 x k + 2 * (x.pln.length : Int)
abbrev polMarks (x : PolM) (k : Int) : List (Nat × Ent) := [(0, .nest 44 2 1 x.own.length (lenF x.own) (nestMk x.own k) []), (1, .row 55 5 x.lns.length (laneMk (polK1 x k))), (2, .row 57 2 x.bls.length (bellMk (polK2 x k))), (3, .row 59 2 x.pln.length (slotMk (polK3 x k)))]
theorem polK_b (x : PolM) (k : Int) (hf : (x.size : Int) ≤ 1048576) (h1 : 0 ≤ k) (h2 : k ≤ 1073741824) : 0 ≤ polK x k ∧ polK x k ≤ k + 5242880 := by
  have e : x.size = x.own.length + sumN x.own + x.lns.length + x.bls.length + x.pln.length := rfl
  show 0 ≤ k + (sumN x.own : Nat) + 5 * (x.lns.length : Int) + 2 * (x.bls.length : Int) + 2 * (x.pln.length : Int) ∧ k + (sumN x.own : Nat) + 5 * (x.lns.length : Int) + 2 * (x.bls.length : Int) + 2 * (x.pln.length : Int) ≤ _
  omega
theorem c_laws_markPolicy (x : PolM) (k : Int) (hf : (x.size : Int) ≤ 1048576) (hk : 0 ≤ k) (hk2 : k ≤ 1073741824) :
    MutOK Tryz.prog 23 [.agg [.row 0, .row 1, .row 2, .row 3], di k] 4 (polRows x) (di (polK x k)) 4 (polMarks x k) := by
  have e : x.size = x.own.length + sumN x.own + x.lns.length + x.bls.length + x.pln.length := rfl
  have c1 := c_laws_markInt64SS x.own k (by omega) (by omega) hk hk2
  have c2 := c_laws_markLaneS x.lns (polK1 x k) (by omega) (by show 0 ≤ k + (sumN x.own : Nat); omega) (by show k + (sumN x.own : Nat) ≤ _; omega)
  have c3 := c_laws_markBellS x.bls (polK2 x k) (by omega) (by show 0 ≤ k + (sumN x.own : Nat) + 5 * (x.lns.length : Int); omega) (by show k + (sumN x.own : Nat) + 5 * (x.lns.length : Int) ≤ _; omega)
  have c4 := c_laws_markSlotS x.pln (polK3 x k) (by omega) (by show 0 ≤ k + (sumN x.own : Nat) + 5 * (x.lns.length : Int) + 2 * (x.bls.length : Int); omega) (by show k + (sumN x.own : Nat) + 5 * (x.lns.length : Int) + 2 * (x.bls.length : Int) ≤ _; omega)
  refine mut_fn_of lv23 Tryz.func23 rfl rfl (by kernel_rfl) rfl [] ?_
  refine .inr ⟨rfl, use_mut ⟨_, _, _, _, _, _, rfl, rfl, c1, rfl, ?_⟩⟩
  refine .inr ⟨rfl, use_mut ⟨_, _, _, _, _, _, rfl, rfl, c2, rfl, ?_⟩⟩
  refine .inr ⟨rfl, use_mut ⟨_, _, _, _, _, _, rfl, rfl, c3, rfl, ?_⟩⟩
  refine .inr ⟨rfl, use_mut ⟨_, _, _, _, _, _, rfl, rfl, c4, rfl, ?_⟩⟩
  exact chk_intro (by kernel_rfl) ⟨tellV_v rfl rfl, tellHp_nest rfl rfl rfl (fun j hj => ⟨rfl, fun q hq => rfl⟩) (tellHp_row rfl rfl rfl (fun j hj => rfl) (tellHp_row rfl rfl rfl (fun j hj => rfl) (tellHp_row rfl rfl rfl (fun j hj => rfl) tellHp_nil)))⟩
end Go.Proofs.YtojaakpnpdnbhaaGreatDoor.L

/- The reference's reading of a policy: contracts. -/
set_option linter.unusedVariables false
set_option linter.unusedSimpArgs false
set_option maxRecDepth 100000
namespace Go.Proofs.YtojaakpnpdnbhaaGreatDoor.L
open Go.RowKit
abbrev rows4P (a b c d : Nat) : List LV := [.row a, .row b, .row c, .row d]
abbrev nil4P : List LV := [.d (.v (.slice none 0 0)), .d (.v (.slice none 0 0)), .d (.v (.slice none 0 0)), .d (.v (.slice none 0 0))]
theorem app_gen {α : Type} (d : α) (F : α → List D) (l : List α) (z : α) (g : Nat → List D) (hg : g 0 = F z) (q : Nat) (hq : q < l.length + 1) : upto l.length (fun i => F (l.getD i d)) g q = F ((l ++ [z]).getD q d) := by
  unfold upto
  by_cases h : q < l.length
  · rw [if_pos h]
    simp only [List.getD]
    rw [List.getElem?_append_left h]
  · rw [if_neg h]
    obtain rfl : q = l.length := by omega
    rw [Nat.sub_self, hg]
    simp [List.getD]
theorem app_inP (l : List (List Int)) (m : List Int) (j : Nat) (hj : j < l.length) : lenF l j = lenF (l ++ [m]) j ∧ ∀ q, inF l j q = inF (l ++ [m]) j q := by
  have e : (l ++ [m]).getD j [] = l.getD j [] := by simp only [List.getD]; rw [List.getElem?_append_left hj]
  exact ⟨by show (l.getD j []).length = ((l ++ [m]).getD j []).length; rw [e], fun q => by show intsF (l.getD j []) q = intsF ((l ++ [m]).getD j []) q; rw [e]⟩
theorem app_lastP (l : List (List Int)) (m : List Int) : (l ++ [m]).getD l.length [] = m := by simp [List.getD]
abbrev addMem (x : PolM) (n : List Int) : List (Nat × Ent) := [(0, .box 27 (rows4P 1 2 3 4)), (1, nestE x.own), (2, rowLane x.lns), (3, rowBell x.bls), (4, rowSlot x.pln), (5, rowE n)]
set_option maxHeartbeats 1600000 in
theorem c_spec_l6Add_0 (x : PolM) (n : List Int) (hx : x.own.length ≤ 100000) : MutOK Tryz.prog 17 [.ptr 0 0, di 0, .row 5] 6 (addMem x n) (.tup []) 7 [(0, .box 27 (rows4P 6 2 3 4)), (6, nestE (x.own ++ [n])), (2, rowLane x.lns), (3, rowBell x.bls), (4, rowSlot x.pln)] := by
  have hsl : (x.own ++ [n]).length = x.own.length + 1 := by simp
  refine mut_fn_of lv17 Tryz.func17 rfl rfl (by kernel_rfl) rfl [(6, 8422)] ?_
  repeat' (first | refine bsplit_true ?_ | refine bsplit_false ?_)
  refine ask_intro trivial ?_
  refine ask_intro ⟨by show (x.own.length + 1) * 24 ≤ 140737488355328; omega, by show x.own.length + 1 ≤ 9223372036854775807; omega, trivial⟩ ?_
  refine chk_intro (by kernel_rfl) ⟨trivial, tellHp_box rfl rfl ⟨rfl, rfl, rfl, rfl, trivial⟩ (tellHp_hole rfl rfl rfl rfl rfl hsl.symm ⟨?_, fun j hj => ?_⟩ (fun j hj hne => ⟨?_, fun u hu => ?_⟩) (tellHp_row rfl rfl rfl (fun j hj => rfl) (tellHp_row rfl rfl rfl (fun j hj => rfl) (tellHp_row rfl rfl rfl (fun j hj => rfl) tellHp_nil))))⟩
  · show n.length = ((x.own ++ [n]).getD x.own.length []).length
    rw [app_lastP]
  · show intsF n j = intsF ((x.own ++ [n]).getD x.own.length []) j
    rw [app_lastP]
  · have hj : j < x.own.length + 1 := hj
    have hne : j ≠ x.own.length := hne
    show (if j < x.own.length then lenF x.own j else 0) = _
    rw [if_pos (by omega)]
    exact (app_inP x.own n j (by omega)).1
  · have hj : j < x.own.length + 1 := hj
    have hne : j ≠ x.own.length := hne
    show (if j < x.own.length then inF x.own j else fun _ => []) u = _
    rw [if_pos (by omega)]
    exact (app_inP x.own n j (by omega)).2 u
set_option maxHeartbeats 1600000 in
theorem c_spec_l6Add_1 (x : PolM) (n : List Int) (hx : x.lns.length ≤ 100000) (hn : n.length = 5) : MutOK Tryz.prog 17 [.ptr 0 0, di 1, .row 5] 6 (addMem x n) (.tup []) 7 [(0, .box 27 (rows4P 1 6 3 4)), (1, nestE x.own), (6, rowLane (x.lns ++ [(⟨n.getD 0 0, n.getD 1 0, n.getD 2 0, n.getD 3 0, n.getD 4 0⟩ : LaneM)])), (3, rowBell x.bls), (4, rowSlot x.pln)] := by
  have hsl : (x.lns ++ [(⟨n.getD 0 0, n.getD 1 0, n.getD 2 0, n.getD 3 0, n.getD 4 0⟩ : LaneM)]).length = x.lns.length + 1 := by simp
  have hz := app_gen (⟨0, 0, 0, 0, 0⟩ : LaneM) laneD x.lns ⟨n.getD 0 0, n.getD 1 0, n.getD 2 0, n.getD 3 0, n.getD 4 0⟩ (fun i => ([laneD ⟨n.getD 0 0, n.getD 1 0, n.getD 2 0, n.getD 3 0, n.getD 4 0⟩] : List (List D)).getD i []) rfl
  refine mut_fn_of lv17 Tryz.func17 rfl rfl (by kernel_rfl) rfl [(6, 12998)] ?_
  repeat' (first | refine bsplit_true ?_ | refine bsplit_false ?_)
  refine ask_intro ⟨by decide, by show (0 : Int) < (n.length : Int); omega⟩ ?_
  refine ask_intro (show 0 < n.length by omega) ?_
  refine ask_intro ⟨by decide, by show (1 : Int) < (n.length : Int); omega⟩ ?_
  refine ask_intro (show 1 < n.length by omega) ?_
  refine ask_intro ⟨by decide, by show (2 : Int) < (n.length : Int); omega⟩ ?_
  refine ask_intro (show 2 < n.length by omega) ?_
  refine ask_intro ⟨by decide, by show (3 : Int) < (n.length : Int); omega⟩ ?_
  refine ask_intro (show 3 < n.length by omega) ?_
  refine ask_intro ⟨by decide, by show (4 : Int) < (n.length : Int); omega⟩ ?_
  refine ask_intro (show 4 < n.length by omega) ?_
  refine ask_intro ⟨by show (x.lns.length + 1) * 40 ≤ 140737488355328; omega, by show x.lns.length + 1 ≤ 9223372036854775807; omega, fun j hj => by obtain rfl : j = 0 := (by omega); rfl⟩ ?_
  exact chk_intro (by kernel_rfl) (chk_intro (by kernel_rfl) ⟨trivial, tellHp_box rfl rfl ⟨rfl, rfl, rfl, rfl, trivial⟩ (tellHp_nest rfl rfl rfl (fun i hi => ⟨rfl, fun j hj => rfl⟩) (tellHp_row rfl rfl hsl.symm (fun j hj => hz j hj) (tellHp_row rfl rfl rfl (fun j hj => rfl) (tellHp_row rfl rfl rfl (fun j hj => rfl) tellHp_nil))))⟩)
set_option maxHeartbeats 1600000 in
theorem c_spec_l6Add_2 (x : PolM) (n : List Int) (hx : x.bls.length ≤ 100000) (hn : n.length = 2) : MutOK Tryz.prog 17 [.ptr 0 0, di 2, .row 5] 6 (addMem x n) (.tup []) 7 [(0, .box 27 (rows4P 1 2 6 4)), (1, nestE x.own), (2, rowLane x.lns), (6, rowBell (x.bls ++ [(⟨n.getD 0 0, n.getD 1 0⟩ : BellM)])), (4, rowSlot x.pln)] := by
  have hsl : (x.bls ++ [(⟨n.getD 0 0, n.getD 1 0⟩ : BellM)]).length = x.bls.length + 1 := by simp
  have hz := app_gen (⟨0, 0⟩ : BellM) bellD x.bls ⟨n.getD 0 0, n.getD 1 0⟩ (fun i => ([bellD ⟨n.getD 0 0, n.getD 1 0⟩] : List (List D)).getD i []) rfl
  refine mut_fn_of lv17 Tryz.func17 rfl rfl (by kernel_rfl) rfl [(6, 16806)] ?_
  repeat' (first | refine bsplit_true ?_ | refine bsplit_false ?_)
  refine ask_intro ⟨by decide, by show (0 : Int) < (n.length : Int); omega⟩ ?_
  refine ask_intro (show 0 < n.length by omega) ?_
  refine ask_intro ⟨by decide, by show (1 : Int) < (n.length : Int); omega⟩ ?_
  refine ask_intro (show 1 < n.length by omega) ?_
  refine ask_intro ⟨by show (x.bls.length + 1) * 16 ≤ 140737488355328; omega, by show x.bls.length + 1 ≤ 9223372036854775807; omega, fun j hj => by obtain rfl : j = 0 := (by omega); rfl⟩ ?_
  exact chk_intro (by kernel_rfl) (chk_intro (by kernel_rfl) ⟨trivial, tellHp_box rfl rfl ⟨rfl, rfl, rfl, rfl, trivial⟩ (tellHp_nest rfl rfl rfl (fun i hi => ⟨rfl, fun j hj => rfl⟩) (tellHp_row rfl rfl rfl (fun j hj => rfl) (tellHp_row rfl rfl hsl.symm (fun j hj => hz j hj) (tellHp_row rfl rfl rfl (fun j hj => rfl) tellHp_nil))))⟩)
set_option maxHeartbeats 1600000 in
theorem c_spec_l6Add_3 (x : PolM) (n : List Int) (hx : x.pln.length ≤ 100000) (hn : n.length = 2) : MutOK Tryz.prog 17 [.ptr 0 0, di 3, .row 5] 6 (addMem x n) (.tup []) 7 [(0, .box 27 (rows4P 1 2 3 6)), (1, nestE x.own), (2, rowLane x.lns), (3, rowBell x.bls), (6, rowSlot (x.pln ++ [(⟨n.getD 0 0, n.getD 1 0⟩ : SlotM)]))] := by
  have hsl : (x.pln ++ [(⟨n.getD 0 0, n.getD 1 0⟩ : SlotM)]).length = x.pln.length + 1 := by simp
  have hz := app_gen (⟨0, 0⟩ : SlotM) slotD x.pln ⟨n.getD 0 0, n.getD 1 0⟩ (fun i => ([slotD ⟨n.getD 0 0, n.getD 1 0⟩] : List (List D)).getD i []) rfl
  refine mut_fn_of lv17 Tryz.func17 rfl rfl (by kernel_rfl) rfl [(6, 20902)] ?_
  repeat' (first | refine bsplit_true ?_ | refine bsplit_false ?_)
  refine ask_intro ⟨by decide, by show (0 : Int) < (n.length : Int); omega⟩ ?_
  refine ask_intro (show 0 < n.length by omega) ?_
  refine ask_intro ⟨by decide, by show (1 : Int) < (n.length : Int); omega⟩ ?_
  refine ask_intro (show 1 < n.length by omega) ?_
  refine ask_intro ⟨by show (x.pln.length + 1) * 16 ≤ 140737488355328; omega, by show x.pln.length + 1 ≤ 9223372036854775807; omega, fun j hj => by obtain rfl : j = 0 := (by omega); rfl⟩ ?_
  exact chk_intro (by kernel_rfl) (chk_intro (by kernel_rfl) ⟨trivial, tellHp_box rfl rfl ⟨rfl, rfl, rfl, rfl, trivial⟩ (tellHp_nest rfl rfl rfl (fun i hi => ⟨rfl, fun j hj => rfl⟩) (tellHp_row rfl rfl rfl (fun j hj => rfl) (tellHp_row rfl rfl rfl (fun j hj => rfl) (tellHp_row rfl rfl hsl.symm (fun j hj => hz j hj) tellHp_nil))))⟩)
end Go.Proofs.YtojaakpnpdnbhaaGreatDoor.L

/- The reference's ParsePolicy: a contract. -/
set_option linter.unusedVariables false
set_option linter.unusedSimpArgs false
set_option maxRecDepth 100000
namespace Go.Proofs.YtojaakpnpdnbhaaGreatDoor.L
open Go.RowKit
abbrev prR (q : Int × Int × PolM) : RV := .r (.agg [.v (.int .i64 q.1), .v (.int .i64 q.2.1), oOwns q.2.2.own, oLanes q.2.2.lns, oBells q.2.2.bls, oSlots q.2.2.pln])
abbrev nil6 : List LV := [di 0, di 0, .d (.v (.slice none 0 0)), .d (.v (.slice none 0 0)), .d (.v (.slice none 0 0)), .d (.v (.slice none 0 0))]
abbrev pmem (p : PolM) : List (Nat × Ent) := [(10, .box 29 nil6), (11, .box 27 (rows4P 12 13 14 15)), (12, nestE p.own), (13, rowLane p.lns), (14, rowBell p.bls), (15, rowSlot p.pln)]
theorem drop_two {L : List (List UInt8)} {i : Nat} (h : i + 1 < L.length) : ∃ y r, L.drop i = L.getD i [] :: y :: r ∧ L.drop (i + 1) = y :: r := by
  refine ⟨L[i + 1], L.drop (i + 2), ?_, List.drop_eq_getElem_cons h⟩
  rw [List.drop_eq_getElem_cons (by omega : i < L.length), List.drop_eq_getElem_cons h]
  congr 1
  simp [List.getD, show i < L.length by omega]
theorem drop_one {L : List (List UInt8)} {i : Nat} (h : i + 1 = L.length) : L.drop i = [L.getD i []] := by
  rw [List.drop_eq_getElem_cons (by omega : i < L.length), List.drop_of_length_le (by omega)]
  simp [List.getD, show i < L.length by omega]
theorem parse_bad {p : PolM} {last i : Int} {x y : List UInt8} {r : List (List UInt8)} (h : wordsW x = none) : parseR p last i (x :: y :: r) = (noPol, i, false) := by rw [parseR, h]
theorem parse_low {p : PolM} {last i k : Int} {n : List Int} {x y : List UInt8} {r : List (List UInt8)} (h : wordsW x = some (k, n)) (hk : k < last) : parseR p last i (x :: y :: r) = (noPol, i, false) := by
  rw [parseR, h]
  simp only
  rw [if_pos hk]
theorem parse_step {p : PolM} {last i k : Int} {n : List Int} {x y : List UInt8} {r : List (List UInt8)} (h : wordsW x = some (k, n)) (hk : ¬ k < last) : parseR p last i (x :: y :: r) = parseR (addP p k n) k (i + 1) (y :: r) := by
  rw [parseR, h]
  simp only
  rw [if_neg hk]
theorem emp_ne (w : List UInt8) : (!((tx w).toList == (ByteArray.mk #[]).toList)) = decide (w ≠ []) := by
  show (!((tx w).toList == (tx []).toList)) = _
  rw [tx_beq]
  by_cases h : w = [] <;> simp [h]
theorem c_spec_l6Add_k0 (x : PolM) (n : List Int) (k : Int) (hk : k = 0) (hx : x.own.length ≤ 100000) : MutOK Tryz.prog 17 [.ptr 0 0, di k, .row 5] 6 (addMem x n) (.tup []) 7 [(0, .box 27 (rows4P 6 2 3 4)), (6, nestE (addP x k n).own), (2, rowLane (addP x k n).lns), (3, rowBell (addP x k n).bls), (4, rowSlot (addP x k n).pln)] := by
  subst hk
  exact c_spec_l6Add_0 x n hx
theorem c_spec_l6Add_k1 (x : PolM) (n : List Int) (k : Int) (hk : k = 1) (hx : x.lns.length ≤ 100000) (hn : n.length = 5) : MutOK Tryz.prog 17 [.ptr 0 0, di k, .row 5] 6 (addMem x n) (.tup []) 7 [(0, .box 27 (rows4P 1 6 3 4)), (1, nestE (addP x k n).own), (6, rowLane (addP x k n).lns), (3, rowBell (addP x k n).bls), (4, rowSlot (addP x k n).pln)] := by
  subst hk
  exact c_spec_l6Add_1 x n hx hn
theorem c_spec_l6Add_k2 (x : PolM) (n : List Int) (k : Int) (hk : k = 2) (hx : x.bls.length ≤ 100000) (hn : n.length = 2) : MutOK Tryz.prog 17 [.ptr 0 0, di k, .row 5] 6 (addMem x n) (.tup []) 7 [(0, .box 27 (rows4P 1 2 6 4)), (1, nestE (addP x k n).own), (2, rowLane (addP x k n).lns), (6, rowBell (addP x k n).bls), (4, rowSlot (addP x k n).pln)] := by
  subst hk
  exact c_spec_l6Add_2 x n hx hn
theorem c_spec_l6Add_k3 (x : PolM) (n : List Int) (k : Int) (hk : k = 3) (hx : x.pln.length ≤ 100000) (hn : n.length = 2) : MutOK Tryz.prog 17 [.ptr 0 0, di k, .row 5] 6 (addMem x n) (.tup []) 7 [(0, .box 27 (rows4P 1 2 3 6)), (1, nestE (addP x k n).own), (2, rowLane (addP x k n).lns), (3, rowBell (addP x k n).bls), (6, rowSlot (addP x k n).pln)] := by
  subst hk
  exact c_spec_l6Add_3 x n hx hn
set_option maxHeartbeats 6400000 in
theorem c_spec_ParsePolicy (t : List UInt8) (ht : t.length ≤ 1048576) : FnOK Tryz.prog 5 [dT t] (prR (parsePol polFault t)) := by
  have hsz := tx_size t
  obtain ⟨V, hV⟩ : ∃ V, V = parsePol polFault t := ⟨_, rfl⟩
  rw [← hV]
  unfold parsePol at hV
  by_cases h1000 : 1000 < t.length
  · rw [if_pos h1000] at hV
    subst hV
    refine fn_of lv5 Tryz.func5 rfl rfl (by kernel_rfl) rfl ?_
    refine bsplit_of_true (decide_eq_true (show ((tx t).size : Int) > 1000 by omega)) ?_
    exact ⟨⟨rfl, rfl, ⟨rfl, rfl⟩, ⟨rfl, rfl⟩, ⟨rfl, rfl⟩, ⟨rfl, rfl⟩, trivial⟩, rfl⟩
  rw [if_neg h1000] at hV
  have cc := c_spec_l6Cut t 10 (by omega)
  have hLl := cutL_len 10 t
  have hLm := cutL_memlen 10 t
  generalize cutL 10 t = L at *
  have hcw : ∀ i, i < L.length → FnOK Tryz.prog 16 [dT (L.getD i [])] (wordsR (wordsW (L.getD i []))) := fun i hi => c_spec_l6Words _ (by have := hLm _ (by rw [getD_at _ hi]; exact List.getElem_mem hi : L.getD i [] ∈ L); omega)
  obtain ⟨R, hR⟩ : ∃ R, R = parseR noPol 0 0 L := ⟨_, rfl⟩
  rw [← hR] at hV
  have hwl : IntKind.i64.wrap ((L.length : Int) - 1) = (L.length : Int) - 1 := wrap_i64 _ (by omega) (by omega)
  have hwn : (IntKind.i64.wrap ((L.length : Int) - 1)).toNat = L.length - 1 := by omega
  refine fn_of lv5 Tryz.func5 rfl rfl (by kernel_rfl) rfl ?_
  refine bsplit_of_false (decide_eq_false (show ¬ ((tx t).size : Int) > 1000 by omega)) ?_
  refine .inl ⟨_, _, rfl, cc, rfl, ?_⟩
  refine ⟨{ x : PolM × Nat × Int // x.2.1 + 1 ≤ L.length ∧ PolRead x.1 x.2.1 ∧ parseR x.1 x.2.2 (x.2.1 : Int) (L.drop x.2.1) = R }, fun x => ⟨frL [(2, .ptr 10 0), (3, .row 16), (4, .ptr 11 0), (5, di x.1.2.2), (6, di x.1.2.1)], hpL [(10, .box 29 nil6), (11, .box 27 (rows4P 12 13 14 15)), (12, nestE x.1.1.own), (13, rowLane x.1.1.lns), (14, rowBell x.1.1.bls), (15, rowSlot x.1.1.pln), (16, txE L)], 100, 0⟩, fun x => L.length - x.1.2.1, ⟨(noPol, 0, 0), by show 0 + 1 ≤ L.length; omega, PolRead.none, hR.symm⟩,
    Le.trans (nilBox (k := 12320) (i := 0) (t := 27) (cs := [.d (.v (.slice none 0 0)), .d (.v (.slice none 0 0)), .d (.v (.slice none 0 0)), .d (.v (.slice none 0 0))]) rfl rfl (nestE []) rfl rfl) (Le.trans (nilBox (k := 12320) (i := 1) (t := 27) (cs := [.row 24576, .d (.v (.slice none 0 0)), .d (.v (.slice none 0 0)), .d (.v (.slice none 0 0))]) rfl rfl (rowLane []) rfl rfl) (Le.trans (nilBox (k := 12320) (i := 2) (t := 27) (cs := [.row 24576, .row 24577, .d (.v (.slice none 0 0)), .d (.v (.slice none 0 0))]) rfl rfl (rowBell []) rfl rfl) (Le.trans (nilBox (k := 12320) (i := 3) (t := 27) (cs := [.row 24576, .row 24577, .row 24578, .d (.v (.slice none 0 0))]) rfl rfl (rowSlot []) rfl rfl) (le_of [(10, 0), (11, 12320), (12, 24576), (13, 24577), (14, 24578), (15, 24579), (16, 8224)] rfl rfl rfl rfl (tellHp_box rfl rfl ⟨rfl, rfl, rfl, rfl, rfl, rfl, trivial⟩ (tellHp_box rfl rfl ⟨rfl, rfl, rfl, rfl, trivial⟩ (tellHp_nest rfl rfl rfl (fun i hi => absurd hi (Nat.not_lt_zero _)) (tellHp_row rfl rfl rfl (fun j hj => rfl) (tellHp_row rfl rfl rfl (fun j hj => rfl) (tellHp_row rfl rfl rfl (fun j hj => rfl) (tellHp_row rfl rfl rfl (fun j hj => rfl) tellHp_nil)))))))
      (tellFr_ptr rfl rfl (tellFr_row rfl rfl (tellFr_ptr rfl rfl (tellFr_v rfl rfl (tellFr_v rfl rfl trivial))))))))), ?_⟩
  rintro ⟨⟨p, i, last⟩, hi, hp, hQ⟩
  simp only at hi hp hQ
  have htot := hp.tot
  have hwi : IntKind.i64.wrap ((i : Int) + 1) = ((i + 1 : Nat) : Int) := wrap_i64 (i + 1) (by omega) (by omega)
  by_cases h : i + 1 < L.length
  · obtain ⟨y, r, hd1, hd2⟩ := drop_two h
    rw [hd1] at hQ
    have cw := hcw i (by omega)
    cases hw : wordsW (L.getD i []) with
    | none =>
      rw [hw] at cw
      rw [parse_bad hw] at hQ
      subst hQ
      simp only at hV
      subst hV
      refine bsplit_of_true (decide_eq_true (show (i : Int) < IntKind.i64.wrap ((L.length : Int) - 1) by omega)) ?_
      refine ask_intro ⟨by show (0 : Int) ≤ (i : Int); omega, by show (i : Int) < (L.length : Int); omega⟩ ?_
      refine ask_intro (show i < L.length by omega) ?_
      refine .inl ⟨_, _, rfl, cw, rfl, ?_⟩
      repeat' (first | refine bsplit_true ?_ | refine bsplit_false ?_)
      exact ⟨⟨rfl, rfl, ⟨rfl, rfl⟩, ⟨rfl, rfl⟩, ⟨rfl, rfl⟩, ⟨rfl, rfl⟩, trivial⟩, rfl⟩
    | some kn =>
      obtain ⟨k, n⟩ := kn
      rw [hw] at cw
      obtain ⟨hk0, hk3, hwo, _, _⟩ := wordsW_some hw
      by_cases hlo : k < last
      · rw [parse_low hw hlo] at hQ
        subst hQ
        simp only at hV
        subst hV
        refine bsplit_of_true (decide_eq_true (show (i : Int) < IntKind.i64.wrap ((L.length : Int) - 1) by omega)) ?_
        refine ask_intro ⟨by show (0 : Int) ≤ (i : Int); omega, by show (i : Int) < (L.length : Int); omega⟩ ?_
        refine ask_intro (show i < L.length by omega) ?_
        refine .inl ⟨_, _, rfl, cw, rfl, ?_⟩
        repeat' (first | refine bsplit_true ?_ | refine bsplit_false ?_)
        refine bsplit_of_true (decide_eq_true hlo) ?_
        exact ⟨⟨rfl, rfl, ⟨rfl, rfl⟩, ⟨rfl, rfl⟩, ⟨rfl, rfl⟩, ⟨rfl, rfl⟩, trivial⟩, rfl⟩
      · rw [parse_step hw hlo, ← hd2] at hQ
        have hQ2 : parseR (addP p k n) k ((i + 1 : Nat) : Int) (L.drop (i + 1)) = R := by rw [← hQ]; congr 1
        have hp2 := hp.add hwo
        refine bsplit_of_true (decide_eq_true (show (i : Int) < IntKind.i64.wrap ((L.length : Int) - 1) by omega)) ?_
        refine ask_intro ⟨by show (0 : Int) ≤ (i : Int); omega, by show (i : Int) < (L.length : Int); omega⟩ ?_
        refine ask_intro (show i < L.length by omega) ?_
        refine .inl ⟨_, _, rfl, cw, rfl, ?_⟩
        repeat' (first | refine bsplit_true ?_ | refine bsplit_false ?_)
        refine bsplit_of_false (decide_eq_false hlo) ?_
        by_cases hk : k = 0
        · have ca := c_spec_l6Add_k0 p n k hk (by omega)
          refine .inr ⟨rfl, use_mut ⟨_, _, _, _, _, _, rfl, rfl, ca, rfl, ?_⟩⟩
          exact ⟨⟨(addP p k n, i + 1, k), by show i + 1 + 1 ≤ L.length; omega, hp2, hQ2⟩, le_of [(10, 10), (11, 11), (12, 16548), (13, 13), (14, 14), (15, 15), (16, 16)] rfl rfl rfl rfl (tellHp_box rfl rfl ⟨rfl, rfl, rfl, rfl, rfl, rfl, trivial⟩ (tellHp_box rfl rfl ⟨rfl, rfl, rfl, rfl, trivial⟩ (tellHp_nest rfl rfl rfl (fun i hi => ⟨rfl, fun j hj => rfl⟩) (tellHp_row rfl rfl rfl (fun j hj => rfl) (tellHp_row rfl rfl rfl (fun j hj => rfl) (tellHp_row rfl rfl rfl (fun j hj => rfl) (tellHp_row rfl rfl rfl (fun j hj => rfl) tellHp_nil)))))))
            (tellFr_ptr rfl rfl (tellFr_row rfl rfl (tellFr_ptr rfl rfl (tellFr_v rfl rfl (tellFr_v rfl (congrArg (Value.int .i64) hwi) trivial))))), by show L.length - (i + 1) < L.length - i; omega⟩
        by_cases hk : k = 1
        · have hn : n.length = 5 := by rw [hk] at hwo; simpa [wantOK] using hwo
          have ca := c_spec_l6Add_k1 p n k hk (by omega) hn
          refine .inr ⟨rfl, use_mut ⟨_, _, _, _, _, _, rfl, rfl, ca, rfl, ?_⟩⟩
          exact ⟨⟨(addP p k n, i + 1, k), by show i + 1 + 1 ≤ L.length; omega, hp2, hQ2⟩, le_of [(10, 10), (11, 11), (12, 12), (13, 16548), (14, 14), (15, 15), (16, 16)] rfl rfl rfl rfl (tellHp_box rfl rfl ⟨rfl, rfl, rfl, rfl, rfl, rfl, trivial⟩ (tellHp_box rfl rfl ⟨rfl, rfl, rfl, rfl, trivial⟩ (tellHp_nest rfl rfl rfl (fun i hi => ⟨rfl, fun j hj => rfl⟩) (tellHp_row rfl rfl rfl (fun j hj => rfl) (tellHp_row rfl rfl rfl (fun j hj => rfl) (tellHp_row rfl rfl rfl (fun j hj => rfl) (tellHp_row rfl rfl rfl (fun j hj => rfl) tellHp_nil)))))))
            (tellFr_ptr rfl rfl (tellFr_row rfl rfl (tellFr_ptr rfl rfl (tellFr_v rfl rfl (tellFr_v rfl (congrArg (Value.int .i64) hwi) trivial))))), by show L.length - (i + 1) < L.length - i; omega⟩
        by_cases hk : k = 2
        · have hn : n.length = 2 := by rw [hk] at hwo; simpa [wantOK] using hwo
          have ca := c_spec_l6Add_k2 p n k hk (by omega) hn
          refine .inr ⟨rfl, use_mut ⟨_, _, _, _, _, _, rfl, rfl, ca, rfl, ?_⟩⟩
          exact ⟨⟨(addP p k n, i + 1, k), by show i + 1 + 1 ≤ L.length; omega, hp2, hQ2⟩, le_of [(10, 10), (11, 11), (12, 12), (13, 13), (14, 16548), (15, 15), (16, 16)] rfl rfl rfl rfl (tellHp_box rfl rfl ⟨rfl, rfl, rfl, rfl, rfl, rfl, trivial⟩ (tellHp_box rfl rfl ⟨rfl, rfl, rfl, rfl, trivial⟩ (tellHp_nest rfl rfl rfl (fun i hi => ⟨rfl, fun j hj => rfl⟩) (tellHp_row rfl rfl rfl (fun j hj => rfl) (tellHp_row rfl rfl rfl (fun j hj => rfl) (tellHp_row rfl rfl rfl (fun j hj => rfl) (tellHp_row rfl rfl rfl (fun j hj => rfl) tellHp_nil)))))))
            (tellFr_ptr rfl rfl (tellFr_row rfl rfl (tellFr_ptr rfl rfl (tellFr_v rfl rfl (tellFr_v rfl (congrArg (Value.int .i64) hwi) trivial))))), by show L.length - (i + 1) < L.length - i; omega⟩
        have hn : n.length = 2 := by have hk : k = 3 := (by omega); rw [hk] at hwo; simpa [wantOK] using hwo
        have ca := c_spec_l6Add_k3 p n k (by omega) (by omega) hn
        refine .inr ⟨rfl, use_mut ⟨_, _, _, _, _, _, rfl, rfl, ca, rfl, ?_⟩⟩
        exact ⟨⟨(addP p k n, i + 1, k), by show i + 1 + 1 ≤ L.length; omega, hp2, hQ2⟩, le_of [(10, 10), (11, 11), (12, 12), (13, 13), (14, 14), (15, 16548), (16, 16)] rfl rfl rfl rfl (tellHp_box rfl rfl ⟨rfl, rfl, rfl, rfl, rfl, rfl, trivial⟩ (tellHp_box rfl rfl ⟨rfl, rfl, rfl, rfl, trivial⟩ (tellHp_nest rfl rfl rfl (fun i hi => ⟨rfl, fun j hj => rfl⟩) (tellHp_row rfl rfl rfl (fun j hj => rfl) (tellHp_row rfl rfl rfl (fun j hj => rfl) (tellHp_row rfl rfl rfl (fun j hj => rfl) (tellHp_row rfl rfl rfl (fun j hj => rfl) tellHp_nil)))))))
          (tellFr_ptr rfl rfl (tellFr_row rfl rfl (tellFr_ptr rfl rfl (tellFr_v rfl rfl (tellFr_v rfl (congrArg (Value.int .i64) hwi) trivial))))), by show L.length - (i + 1) < L.length - i; omega⟩
  · have hi1 : i + 1 = L.length := by omega
    rw [drop_one hi1] at hQ
    have hii : (IntKind.i64.wrap ((L.length : Int) - 1)).toNat = i := by omega
    have hiv : IntKind.i64.wrap ((L.length : Int) - 1) = (i : Int) := by omega
    have hs := hp.small (by omega)
    have cf := c_spec_l6Fault p hs
    have hem := emp_ne (L.getD (IntKind.i64.wrap ((L.length : Int) - 1)).toNat [])
    rw [hii] at hem
    by_cases he : L.getD i [] = []
    · have hb : (!((tx (L.getD (IntKind.i64.wrap ((L.length : Int) - 1)).toNat [])).toList == (ByteArray.mk #[]).toList)) = false := by rw [hii, hem]; exact decide_eq_false (fun e => e he)
      have hQ2 : R = (p, (i : Int), true) := by rw [← hQ, parseR, if_pos he]
      rw [hQ2] at hV
      simp only at hV
      refine bsplit_of_false (decide_eq_false (show ¬ (i : Int) < IntKind.i64.wrap ((L.length : Int) - 1) by omega)) ?_
      refine ask_intro ⟨by show 0 ≤ IntKind.i64.wrap ((L.length : Int) - 1); omega, by show IntKind.i64.wrap ((L.length : Int) - 1) < (L.length : Int); omega⟩ ?_
      refine ask_intro (show (IntKind.i64.wrap ((L.length : Int) - 1)).toNat < L.length by omega) ?_
      refine bsplit_of_false hb ?_
      refine .inl ⟨_, _, rfl, cf, rfl, ?_⟩
      by_cases hf : polFault p = 0
      · rw [if_pos hf] at hV
        subst hV
        refine bsplit_of_false (by simp [hf]) ?_
        exact ⟨⟨rfl, rfl, ⟨rfl, rfl, rfl, rfl, fun i hi => ⟨rfl, fun j hj => ⟨rfl, rfl⟩⟩⟩, ⟨rfl, rfl, rfl, fun i hi => ⟨rfl, rfl⟩⟩, ⟨rfl, rfl, rfl, fun i hi => ⟨rfl, rfl⟩⟩, ⟨rfl, rfl, rfl, fun i hi => ⟨rfl, rfl⟩⟩, trivial⟩, rfl⟩
      · rw [if_neg hf] at hV
        subst hV
        refine bsplit_of_true (by simp [hf]) ?_
        exact ⟨⟨rfl, rfl, ⟨rfl, rfl⟩, ⟨rfl, rfl⟩, ⟨rfl, rfl⟩, ⟨rfl, rfl⟩, trivial⟩, rfl⟩
    · have hb : (!((tx (L.getD (IntKind.i64.wrap ((L.length : Int) - 1)).toNat [])).toList == (ByteArray.mk #[]).toList)) = true := by rw [hii, hem]; exact decide_eq_true he
      have hQ2 : R = (noPol, (i : Int), false) := by rw [← hQ, parseR, if_neg he]
      rw [hQ2] at hV
      simp only at hV
      rw [← hiv] at hV
      subst hV
      refine bsplit_of_false (decide_eq_false (show ¬ (i : Int) < IntKind.i64.wrap ((L.length : Int) - 1) by omega)) ?_
      refine ask_intro ⟨by show 0 ≤ IntKind.i64.wrap ((L.length : Int) - 1); omega, by show IntKind.i64.wrap ((L.length : Int) - 1) < (L.length : Int); omega⟩ ?_
      refine ask_intro (show (IntKind.i64.wrap ((L.length : Int) - 1)).toNat < L.length by omega) ?_
      refine bsplit_of_true hb ?_
      exact ⟨⟨rfl, rfl, ⟨rfl, rfl⟩, ⟨rfl, rfl⟩, ⟨rfl, rfl⟩, ⟨rfl, rfl⟩, trivial⟩, rfl⟩
end Go.Proofs.YtojaakpnpdnbhaaGreatDoor.L

/- The library's functions that the reading of a policy calls: contracts. -/
set_option linter.unusedVariables false
set_option linter.unusedSimpArgs false
set_option maxRecDepth 100000
namespace Go.Proofs.YtojaakpnpdnbhaaGreatDoor.L
open Go.RowKit
abbrev vals (xs : List Value) : RV := .tup (xs.map fun x => .one (.v x))
theorem leaves_vals : ∀ xs : List Value, leavesT (xs.map fun x => RV1.one (.v x)) = xs.map RC.v
  | [] => rfl
  | x :: xs => by
    show [RC.v x] ++ leavesT (xs.map fun x => RV1.one (.v x)) = _
    rw [leaves_vals xs]
    rfl
theorem tvals_vals (us : List Value) : ∀ (xs : List Value) (j : Nat), us.drop j = xs → tvals us j (xs.map fun x => RV1.one (.v x)) = xs
  | [], j, _ => rfl
  | x :: xs, j, h => by
    have hj : j < us.length := by
      rcases Nat.lt_or_ge j us.length with h1 | h1
      · exact h1
      · rw [List.drop_of_length_le h1] at h; cases h
    rw [List.drop_eq_getElem_cons hj] at h
    obtain ⟨h1, h2⟩ := List.cons.inj h
    show us.getD j undef :: tvals us (j + 1) (xs.map fun x => RV1.one (.v x)) = _
    rw [tvals_vals us xs (j + 1) h2]
    simp [List.getD, hj, h1]
theorem rr_vals {W : World} {base : Nat} {F : Nat → Prop} (xs : List Value) : RR W base F (vals xs) (.tuple xs.toArray) := by
  refine ⟨xs, fun _ => False, ?_, ?_, fun b hb => hb.elim, fun j c hc => ?_, fun j c e g hc ho => ?_, fun i j c d e e' g hc hd ho => ?_⟩
  · show xs.length = (leavesT _).length
    rw [leaves_vals, List.length_map]
  · show _ = Value.tuple (tvals xs 0 _).toArray
    rw [tvals_vals xs xs 0 rfl]
  · have hc : (leavesT (xs.map fun x => RV1.one (.v x)))[j]? = some c := hc
    rw [leaves_vals, List.getElem?_map] at hc
    cases hx : xs[j]? with
    | none => rw [hx] at hc; cases hc
    | some x =>
      rw [hx] at hc
      cases hc
      show xs.getD j undef = x
      simp [List.getD, hx]
  · have hc : (leavesT (xs.map fun x => RV1.one (.v x)))[j]? = some c := hc
    rw [leaves_vals, List.getElem?_map] at hc
    cases hx : xs[j]? with
    | none => rw [hx] at hc; cases hc
    | some x => rw [hx] at hc; cases hc; simp [entOf] at ho
  · have hc : (leavesT (xs.map fun x => RV1.one (.v x)))[i]? = some c := hc
    rw [leaves_vals, List.getElem?_map] at hc
    cases hx : xs[i]? with
    | none => rw [hx] at hc; cases hc
    | some x => rw [hx] at hc; cases hc; simp [entOf] at ho
/-- a function that answers plain values and turns nothing of what was there -/
theorem FnS.of_vals {P : Program} {g : FuncId} {fn : Func} (hf : P.funcs[g]? = Option.some fn) (hb : fn.body.isSome = true) (hn : (fn.name == "runtime.NumGoroutine") = false) {lvs : List LV} {Q : List Value → Prop}
    (h : ∀ (W : World) (F : Nat → Prop) (vs : List Value), (∀ b, F b → b < W.heap.size) → GlOK F W → vs.length = lvs.length → (∀ j, j < lvs.length → VR (fun _ => none) W F (lvs.getD j .bad) (vs.getD j undef)) → Calls P g vs.toArray W fun e W' => ∃ xs, e = .returned (.tuple xs.toArray) ∧ Q xs ∧ Below W.heap.size W W') : FnS P g lvs (fun r => ∃ xs, Q xs ∧ r = vals xs) :=
  ⟨⟨fn, hf, hb, hn⟩, fun W F vs hG hl hv => (h W F vs hG.1 hG.2 hl hv).mono fun e W' ⟨xs, he, hQ, hB⟩ => ⟨_, _, he, hB, ⟨xs, hQ, rfl⟩, rr_vals xs⟩⟩
theorem vs1 {vs : List Value} (h : vs.length = 1) : ∃ a, vs = [a] := by
  match vs, h with
  | [a], _ => exact ⟨a, rfl⟩
theorem c_strings_Cut (t : List UInt8) (b : UInt8) (ht : t.length ≤ 1000000) : FnOK Tryz.prog 19 [dT t, dT [b]] (vals [.string (tx (Lib.cut t [b]).1), .string (tx (Lib.cut t [b]).2.1), .bool (Lib.cut t [b]).2.2]) := by
  refine FnS.one (FnS.imp (FnS.of_vals (Q := fun xs => xs = [.string (tx (Lib.cut t [b]).1), .string (tx (Lib.cut t [b]).2.1), .bool (Lib.cut t [b]).2.2]) Tryz.func19 (by kernel_rfl) (by kernel_rfl) fun W F vs hF hG hl hv => ?_) (fun r ⟨xs, hx, hr⟩ => by rw [hr, hx]))
  obtain ⟨a, c, rfl⟩ := vs2 hl
  have ha : a = .string (tx t) := VR.atomv (hv 0 (by simp))
  have hc : c = .string (tx [b]) := VR.atomv (hv 1 (by simp))
  subst ha hc
  obtain ⟨m, hm, m2, rfl⟩ := hG.one (g := 0) (b := false) (by unfold gcell; decide)
  have hz := tx_size t
  have h := Tryz.strings_Cut (tx t) (tx [b]) m2 W (by omega) hm
  rw [tx_list, tx_list] at h
  exact h.mono fun e W' ⟨he, n, hw⟩ => ⟨_, he, rfl, by subst hw; exact ⟨rfl, rfl, rfl, Nat.le_refl _, fun _ _ => rfl⟩⟩
theorem split_tx (t : List UInt8) (b : UInt8) : Lib.splitB (tx [b]) 0 (Lib.countB (tx t) (tx [b])) (tx t) = (cutL b t).map tx := by
  have h := Lib.splitB_data (tx [b]) 0 (Lib.countB (tx t) (tx [b])) (tx t)
  rw [tx_list, tx_list] at h
  have hc : Lib.countB (tx t) (tx [b]) = Lib.count t [b] := by
    show Lib.count (tx t).data.toList (tx [b]).data.toList = _
    rw [tx_list, tx_list]
  rw [hc] at h ⊢
  rw [splitK_cut b _ t rfl] at h
  rw [← h, List.map_map]
  conv => lhs; rw [← List.map_id (Lib.splitB _ _ _ _)]
  refine List.map_congr_left fun x _ => ?_
  show x = tx x.data.toList
  apply ByteArray.ext
  simp [tx]
theorem c_strings_Split (t : List UInt8) (b : UInt8) (ht : t.length ≤ 1000000) : FnOK Tryz.prog 36 [dT t, dT [b]] (.r (.one (oTxs (cutL b t)))) := by
  refine ⟨⟨_, Tryz.func36, by kernel_rfl, by kernel_rfl⟩, fun W F vs hG hl hv => ?_⟩
  obtain ⟨a, c, rfl⟩ := vs2 hl
  have ha : a = .string (tx t) := VR.atomv (hv 0 (by simp))
  have hc : c = .string (tx [b]) := VR.atomv (hv 1 (by simp))
  subst ha hc
  obtain ⟨m, hm, m2, rfl⟩ := hG.2.one (g := 0) (b := false) (by unfold gcell; decide)
  have hz := tx_size t
  have hcl := cutL_len b t
  have h := Tryz.strings_Split (tx t) (tx [b]) m2 W (by omega) hm (by rw [tx_size]; exact Nat.le_refl _)
  have hlen : Lib.countB (tx t) (tx [b]) + 1 = (cutL b t).length := by
    have h1 := Lib.splitB_all (tx [b]) (by rw [tx_size]; exact Nat.le_refl _) 0 _ (tx t) rfl
    rw [split_tx, List.length_map] at h1
    exact h1.symm
  rw [split_tx, hlen, List.map_map] at h
  refine h.mono fun e W' ⟨he, hw⟩ => ⟨_, he, ?_, ?_⟩
  · subst hw
    exact (Below.refl _ _).alloc (Nat.le_refl _) _
  · subst hw
    have hsz : (((cutL b t).map (Value.string ∘ tx)).toArray).size = (cutL b t).length * 1 := by simp
    have hrow : (W.alloc (.cells ((cutL b t).map (Value.string ∘ tx)).toArray 9)).ownsRow 0 9 1 (.slice (some ⟨W.heap.size, 0, none⟩) (cutL b t).length (cutL b t).length) (cutL b t).length _ := World.ownsRow_lit W _ _ (Nat.zero_le _) (by simp only [maxLen]; omega) hsz
    have hfoot : ∀ g, foot (W.alloc (.cells ((cutL b t).map (Value.string ∘ tx)).toArray 9)) (.slice (some ⟨W.heap.size, 0, none⟩) (cutL b t).length (cutL b t).length) (.row 9 1 (cutL b t).length (txsF (cutL b t))) g → g = W.heap.size := fun g hg => by
      have := foot_flat rfl hg
      simp [blk] at this
      exact this.symm
    refine ⟨[.slice (some ⟨W.heap.size, 0, none⟩) (cutL b t).length (cutL b t).length], fun _ => False, rfl, rfl, fun b hb => hb.elim, fun j c hc => ?_, fun j c e g hc ho => ?_, fun i j c d e e' g hc hd ho => ?_⟩
    · match j, hc with
      | 0, hc =>
        cases hc
        intro e he2
        cases he2
        refine ⟨⟨Nat.one_pos, _, _, rfl, hrow, fun u hu => ?_, fun i hi => rfl, fun i j hi hj => ?_⟩, fun g hg => ?_, ⟨_, _, _, rfl⟩⟩
        · simp at hu
          obtain ⟨x, _, rfl⟩ := hu
          rfl
        · obtain rfl : j = 0 := by omega
          have e1 : (((cutL b t).map (Value.string ∘ tx)).toArray.toList).getD (i * 1 + 0) undef = .string (tx ((cutL b t).getD i [])) := by
            simp [List.getD, hi]
          rw [e1]
          exact .v _
        · rw [hfoot g hg]
          exact ⟨Nat.le_refl _, by simp⟩
    · exact fun _ h => h
    · match i, j, hc, hd with
      | 0, 0, _, _ => exact fun _ _ _ => rfl
theorem tx_inj {a b : List UInt8} (h : tx a = tx b) : a = b := by
  have := congrArg (fun x : ByteArray => x.data.toList) h
  simpa [tx_list] using this
theorem idx_names (w : List UInt8) : Lib.idxOfS (wNames.map tx) (tx w) = kindW w := by
  show Lib.idxFromS [tx wOwn, tx wLane, tx wBell, tx wSlot] (tx w) 0 = _
  unfold kindW
  simp only [Lib.idxFromS]
  by_cases h0 : w = wOwn
  · subst h0; rw [if_pos rfl, if_pos rfl]; rfl
  rw [if_neg (fun e => h0 (tx_inj e).symm), if_neg h0]
  by_cases h1 : w = wLane
  · subst h1; rw [if_pos rfl, if_pos rfl]; rfl
  rw [if_neg (fun e => h1 (tx_inj e).symm), if_neg h1]
  by_cases h2 : w = wBell
  · subst h2; rw [if_pos rfl, if_pos rfl]; rfl
  rw [if_neg (fun e => h2 (tx_inj e).symm), if_neg h2]
  by_cases h3 : w = wSlot
  · subst h3; rw [if_pos rfl, if_pos rfl]; rfl
  rw [if_neg (fun e => h3 (tx_inj e).symm), if_neg h3]
theorem c_slices_Index (w : List UInt8) : FnOK Tryz.prog 37 [.d (txs wNames), dT w] (ri (kindW w)) :=
  FnOK.of_val Tryz.func37 (by kernel_rfl) (by kernel_rfl) fun W F vs hF hG hlen hv => by
    obtain ⟨a, c, rfl⟩ := vs2 hlen
    have hc : c = .string (tx w) := VR.atomv (hv 1 (by simp))
    subst hc
    have ha : Rd W F (.l wNames.length (txsF wNames)) a := VR.data (hv 0 (by simp))
    generalize hfn : (txsF wNames) = f at ha
    generalize hn : wNames.length = n at ha
    cases ha with
    | nil f A c => exact absurd hn (by decide)
    | l n f ad c sz vs h0 hc hI hs hz hll hvv h1 hr =>
      subst hfn hn
      obtain ⟨bk, o, sp⟩ := ad
      simp only at hs
      subst hs
      have hsz : sz = 1 := by rw [← hll 0 h0]; rfl
      subst hsz
      have hcell : ∀ j, j < (wNames.map tx).length → W.cell? ⟨bk, o + j, none⟩ = some (.string ((wNames.map tx).getD j ByteArray.empty)) := fun j hj => by
        have hj : j < wNames.length := by simpa using hj
        have h2 := hvv j 0 hj (by omega)
        have h3 := hr j 0 hj (by omega)
        have h4 : vs j 0 = .string (tx (wNames.getD j [])) := by
          have h5 : Rd W F (.v (.string (tx (wNames.getD j [])))) (vs j 0) := h3
          generalize vs j 0 = z at h5
          cases h5
          rfl
        rw [h4, add_mk, Nat.mul_one, Nat.add_zero] at h2
        rw [h2]
        simp [List.getD, hj]
      have hJ := Tryz.slices_Index_string bk o wNames.length c (wNames.map tx) (tx w) W (by simp) (by decide) hcell
      rw [List.take_of_length_le (by simp), idx_names] at hJ
      exact hJ.mono fun e W' ⟨he, hw⟩ => ⟨he, by subst hw; exact Below.refl _ _⟩
theorem c_strconv_Itoa (n : Int) (h0 : -9223372036854775808 ≤ n) (h1 : n ≤ 9223372036854775807) : FnOK Tryz.prog 40 [di n] (rT (Lib.itoa n)) :=
  FnOK.of_val Tryz.func40 (by kernel_rfl) (by kernel_rfl) fun W F vs hF hG hl hv => by
    obtain ⟨a, rfl⟩ := vs1 hl
    have ha : a = .int .i64 n := VR.atomv (hv 0 (by simp))
    subst ha
    have htab : Lib.TabIs Tryz.prog W "internal/strconv.uint64pow10" .u64 Lib.pow10Tab := tab_of_gl hG (by kernel_rfl) pow10_mem
    refine (Tryz.strconv_Itoa n h0 h1 W htab).mono fun e W' ⟨he, k, os, hw⟩ => ⟨he, ?_⟩
    subst hw
    exact below_grow W k os
theorem c_strconv_Atoi_ok (w : List UInt8) (hw : w.length ≤ 1000000) (v : Int) (h : Lib.atoiAll w = .ok v) : FnOK Tryz.prog 38 [dT w] (vals [.int .i64 v, .nilIface]) := by
  refine FnS.one (FnS.imp (FnS.of_vals (Q := fun xs => xs = [.int .i64 v, .nilIface]) Tryz.func38 (by kernel_rfl) (by kernel_rfl) fun W F vs hF hG hl hv => ?_) (fun r ⟨xs, hx, hr⟩ => by rw [hr, hx]))
  obtain ⟨a, rfl⟩ := vs1 hl
  have ha : a = .string (tx w) := VR.atomv (hv 0 (by simp))
  subst ha
  have hz := tx_size w
  exact (Tryz.strconv_Atoi_ok (tx w) (by omega) v (by rw [tx_list]; exact h) W).mono fun e W' ⟨he, hw⟩ => ⟨_, he, rfl, by
    rcases hw with rfl | ⟨t, rfl⟩
    · exact Below.refl _ _
    · exact Lib.bytesWorld_below _ _ _⟩
/-- how a number's reading ends -/
theorem num_cases (r : Lib.NumEnd Int) : (∃ v, r = .ok v) ∨ r = Lib.NumEnd.ofOption none ∨ r = .range := by
  cases r <;> first | exact .inl ⟨_, rfl⟩ | exact .inr (.inl rfl) | exact .inr (.inr rfl)
theorem c_strconv_Atoi_bad (w : List UInt8) (hw : w.length ≤ 1000000) (h : ∀ v, Lib.atoiAll w ≠ .ok v) : FnS Tryz.prog 38 [dT w] (fun r => ∃ (v : Int) (u : TypeId) (x : Value), r = vals [.int .i64 v, .iface u x]) := by
  refine FnS.imp (FnS.of_vals (Q := fun xs => ∃ (v : Int) (u : TypeId) (x : Value), xs = [.int .i64 v, .iface u x]) Tryz.func38 (by kernel_rfl) (by kernel_rfl) fun W F vs hF hG hl hv => ?_) (fun r ⟨xs, ⟨v, u, x, hx⟩, hr⟩ => ⟨v, u, x, by rw [hr, hx]⟩)
  obtain ⟨a, rfl⟩ := vs1 hl
  have ha : a = .string (tx w) := VR.atomv (hv 0 (by simp))
  subst ha
  have hz := tx_size w
  obtain ⟨ev1, hv1, k1⟩ := hG.one (g := 1) (b := true) (by unfold gcell; decide)
  obtain ⟨ev2, hv2, k2⟩ := hG.one (g := 2) (b := true) (by unfold gcell; decide)
  rcases num_cases (Lib.atoiAll w) with ⟨v, hh⟩ | hh | hh
  · exact absurd hh (h v)
  · exact (Tryz.strconv_Atoi_syntax (tx w) (by omega) (by rw [tx_list]; exact hh) ev1 W hv1 (.inr k1)).mono fun e W' ⟨N, he, _, _, hB⟩ => ⟨_, he, ⟨_, _, _, rfl⟩, hB⟩
  · exact (Tryz.strconv_Atoi_range (tx w) (by omega) (by rw [tx_list]; exact hh) ev2 W hv2 (.inr k2)).mono fun e W' ⟨N, he, _, _, hB⟩ => ⟨_, he, ⟨_, _, _, rfl⟩, hB⟩
end Go.Proofs.YtojaakpnpdnbhaaGreatDoor.L

/- The program's reading of a line: contracts. -/
set_option linter.unusedVariables false
set_option linter.unusedSimpArgs false
set_option maxRecDepth 100000
namespace Go.Proofs.YtojaakpnpdnbhaaGreatDoor.L
open Go.RowKit
theorem ift_err : IfT Tryz.prog 74 := show Tryz.prog.underlying 74 = _ by kernel_rfl
def lineM (t : List UInt8) : Int × List Int × Bool := if kindW ((cutL 32 t).getD 0 []) < 0 then (0, [], false) else match numsW ((cutL 32 t).drop 1) with
  | none => (0, [], false)
  | some n => (kindW ((cutL 32 t).getD 0 []), n, wantOK (kindW ((cutL 32 t).getD 0 [])) n.length)
theorem words_line (t : List UInt8) : wordsW t = if (lineM t).2.2 = true then some ((lineM t).1, (lineM t).2.1) else none := by
  unfold wordsW lineM
  cases numsW ((cutL 32 t).drop 1) with
  | none => simp
  | some n =>
    simp only
    split
    · simp
    · rfl
theorem numW_yes {w : List UInt8} {v : Int} (h : numW w = some v) : Lib.atoiAll w = .ok v ∧ inR v 0 999 = true ∧ Lib.itoa v = w := by
  obtain ⟨u, hu, rfl, rfl⟩ := numW_some h
  exact ⟨atoiAll_dd hu, inR_iff.2 ⟨by omega, by omega⟩, by rw [itoa_pos (by omega), Int.toNat_natCast]⟩
theorem numW_no {w : List UInt8} {v : Int} (h : numW w = none) (h2 : inR v 0 999 = true) : Lib.itoa v ≠ w := fun e => by
  have h3 := inR_iff.1 h2
  rw [itoa_pos h3.1] at e
  have := numW_dd (u := v.toNat) (by omega)
  rw [e, h] at this
  cases this
abbrev lineR (q : Int × List Int × Bool) : RV := .tup [.one (.v (.int .i64 q.1)), .one (oInts q.2.1), .one (.v (.bool q.2.2))]
theorem dropW (W : List (List UInt8)) (i : Nat) : txsF W (1 + i) = txsF (W.drop 1) i := by
  show [D.v (.string (tx (W.getD (1 + i) [])))] = [D.v (.string (tx ((W.drop 1).getD i [])))]
  simp [List.getD, List.getElem?_drop, Nat.add_comm]
theorem nums_fail2 (W : List (List UInt8)) {i : Nat} {n : List Int} (hl : i < W.length) (hn : numsW (W.take i) = some n) (hx : numW (W.getD i []) = none) : numsW W = none := by
  have e : numsW (W.take (i + 1)) = none := by rw [List.take_succ_eq_append_getElem hl, numsW_snoc, hn, ← getD_at [] hl, hx]
  have e2 := numsW_none e (W.drop (i + 1))
  rwa [List.take_append_drop] at e2
theorem nums_more2 (W : List (List UInt8)) {i : Nat} {n : List Int} {v : Int} (hl : i < W.length) (hn : numsW (W.take i) = some n) (hx : numW (W.getD i []) = some v) : numsW (W.take (i + 1)) = some (n ++ [v]) := by
  rw [List.take_succ_eq_append_getElem hl, numsW_snoc, hn, ← getD_at [] hl, hx]
set_option maxHeartbeats 3200000 in
theorem c_impl_policyLine_m (t : List UInt8) (ht : t.length ≤ 1000000) (hK : kindW ((cutL 32 t).getD 0 []) = (-1)) : FnOK Tryz.prog 20 [dT t] (lineR (lineM t)) := by
  have cc := c_strings_Split t 32 ht
  have hWl := cutL_len 32 t
  have hWm := cutL_memlen 32 t
  obtain ⟨V, hV⟩ : ∃ V, V = lineM t := ⟨_, rfl⟩
  rw [← hV]
  unfold lineM at hV
  generalize cutL 32 t = W at *
  have ci := (c_slices_Index (W.getD 0 [])).weak (xs := [.d (.l 4 (fun i => ([[D.v (.string ⟨#[111, 119, 110]⟩)], [D.v (.string ⟨#[108, 97, 110, 101]⟩)], [D.v (.string ⟨#[98, 101, 108, 108]⟩)], [D.v (.string ⟨#[115, 108, 111, 116]⟩)]] : List (List D)).getD i [])), dT (W.getD 0 [])]) ⟨LVLe.d (DLe.l rfl (fun i hi => names_row i hi)), LVLe.refl _, trivial⟩
  rw [hK] at ci hV
  refine fn_of lv20 Tryz.func20 rfl rfl (by kernel_rfl) rfl ?_
  refine .inl ⟨_, _, rfl, cc, rfl, ?_⟩
  refine ask_intro ⟨by decide, by show (0 : Int) < (W.length : Int); omega⟩ ?_
  refine ask_intro (show 0 < W.length by omega) ?_
  refine .inl ⟨_, _, rfl, ci, rfl, ?_⟩
  repeat' (first | refine bsplit_true ?_ | refine bsplit_false ?_)
  rw [if_pos (by decide)] at hV
  subst hV
  exact ⟨⟨rfl, ⟨rfl, rfl⟩, rfl, trivial⟩, rfl⟩
set_option maxHeartbeats 3200000 in
theorem c_impl_policyLine_0 (t : List UInt8) (ht : t.length ≤ 1000000) (hK : kindW ((cutL 32 t).getD 0 []) = 0) : FnOK Tryz.prog 20 [dT t] (lineR (lineM t)) := by
  have cc := c_strings_Split t 32 ht
  have hWl := cutL_len 32 t
  have hWm := cutL_memlen 32 t
  obtain ⟨V, hV⟩ : ∃ V, V = lineM t := ⟨_, rfl⟩
  rw [← hV]
  unfold lineM at hV
  generalize cutL 32 t = W at *
  have ci := (c_slices_Index (W.getD 0 [])).weak (xs := [.d (.l 4 (fun i => ([[D.v (.string ⟨#[111, 119, 110]⟩)], [D.v (.string ⟨#[108, 97, 110, 101]⟩)], [D.v (.string ⟨#[98, 101, 108, 108]⟩)], [D.v (.string ⟨#[115, 108, 111, 116]⟩)]] : List (List D)).getD i [])), dT (W.getD 0 [])]) ⟨LVLe.d (DLe.l rfl (fun i hi => names_row i hi)), LVLe.refl _, trivial⟩
  rw [hK] at ci hV
  refine fn_of lv20 Tryz.func20 rfl rfl (by kernel_rfl) rfl ?_
  refine .inl ⟨_, _, rfl, cc, rfl, ?_⟩
  refine ask_intro ⟨by decide, by show (0 : Int) < (W.length : Int); omega⟩ ?_
  refine ask_intro (show 0 < W.length by omega) ?_
  refine .inl ⟨_, _, rfl, ci, rfl, ?_⟩
  repeat' (first | refine bsplit_true ?_ | refine bsplit_false ?_)
  rw [if_neg (by decide)] at hV
  obtain ⟨U, hU⟩ : ∃ U, U = W.drop 1 := ⟨_, rfl⟩
  have hUl : U.length + 1 = W.length := by rw [hU, List.length_drop]; omega
  have hUm : ∀ i, i < U.length → (U.getD i []).length ≤ t.length := fun i hi => hWm _ (by rw [getD_at _ hi]; exact List.mem_of_mem_drop (i := 1) (by rw [← hU]; exact List.getElem_mem hi))
  have hUF : ∀ i, txsF W (1 + i) = txsF U i := fun i => by rw [hU]; exact dropW W i
  rw [← hU] at hV
  have hul2 : ((W.length : Int) - 1).toNat = U.length := by omega
  refine ask_intro ⟨by decide, by show (1 : Int) ≤ (W.length : Int); omega, by show (W.length : Int) ≤ (W.length : Int); omega, .inr (fun i hi => rfl)⟩ ?_
  refine ⟨{ x : Nat × List Int // x.1 ≤ U.length ∧ x.2.length = x.1 ∧ numsW (U.take x.1) = some x.2 }, fun x => ⟨frL [(6, di 0), (7, .row 13), (25, .d (txs U)), (26, di U.length), (27, di x.1.1)], hpL [(13, rowE x.1.2)], 100, 0⟩, fun x => U.length - x.1.1, ⟨(0, []), Nat.zero_le _, rfl, rfl⟩,
    le_of [(13, 16384)] rfl rfl rfl rfl (tellHp_row rfl rfl rfl (fun j hj => absurd hj (Nat.not_lt_zero _)) tellHp_nil) (tellFr_v rfl rfl (tellFr_row rfl rfl (tellFr_d rfl (DLe.l hul2 (fun i hi => hUF i)) (tellFr_v rfl (congrArg (Value.int .i64) (show ((((W.length : Int) - 1).toNat : Nat) : Int) = (U.length : Int) by omega)) (tellFr_v rfl rfl trivial))))), ?_⟩
  rintro ⟨⟨i, n⟩, hi, hln, hn⟩
  simp only at hi hln hn
  by_cases h : i < U.length
  · have hwi : IntKind.i64.wrap ((i : Int) + 1) = ((i + 1 : Nat) : Int) := wrap_i64 (i + 1) (by omega) (by omega)
    have hsn : ∀ v : Int, (n ++ [v]).length = n.length + 1 := fun v => by simp
    have hwl : (U.getD i []).length ≤ 1000000 := Nat.le_trans (hUm i h) ht
    refine bsplit_of_true (decide_eq_true (show (i : Int) < (U.length : Int) by omega)) ?_
    refine ask_intro ⟨by show (0 : Int) ≤ (i : Int); omega, by show (i : Int) < (U.length : Int); omega, rfl⟩ ?_
    cases hx : numW (U.getD i []) with
    | some v =>
      obtain ⟨y1, y2, y3⟩ := numW_yes hx
      have y4 := inR_iff.1 y2
      have ca := c_strconv_Atoi_ok (U.getD i []) hwl v y1
      have cw := c_impl_within v 0 999
      rw [y2] at cw
      have co := c_strconv_Itoa v (by omega) (by omega)
      rw [y3] at co
      refine .inl ⟨_, _, rfl, ca, rfl, ?_⟩
      refine ask_intro ift_err ?_
      repeat' (first | refine bsplit_true ?_ | refine bsplit_false ?_)
      refine .inl ⟨_, _, rfl, cw, rfl, ?_⟩
      repeat' (first | refine bsplit_true ?_ | refine bsplit_false ?_)
      refine .inl ⟨_, _, rfl, co, rfl, ?_⟩
      repeat' (first | refine bsplit_true ?_ | refine bsplit_false ?_)
      refine bsplit_of_false (show (!((tx (U.getD i [])).toList == (tx (U.getD i [])).toList)) = false by simp) ?_
      refine ask_intro ⟨by show (n.length + 1) * 8 ≤ 140737488355328; omega, by show n.length + 1 ≤ 9223372036854775807; omega, fun j hj => by obtain rfl : j = 0 := (by omega); rfl⟩ ?_
      exact ⟨⟨(i + 1, n ++ [v]), by show i + 1 ≤ U.length; omega, by show (n ++ [v]).length = i + 1; rw [hsn]; omega, nums_more2 U h hn hx⟩,
        le_of [(13, 16580)] rfl rfl rfl rfl (tellHp_row rfl rfl (hsn _).symm (fun j hj => upto_snoc n _ _ rfl j hj) tellHp_nil) (tellFr_v rfl rfl (tellFr_row rfl rfl (tellFr_d rfl (DLe.refl _) (tellFr_v rfl rfl (tellFr_v rfl (congrArg (Value.int .i64) hwi) trivial))))), by show U.length - (i + 1) < U.length - i; omega⟩
    | none =>
      rw [nums_fail2 U h hn hx] at hV
      subst hV
      by_cases hb : ∀ v, Lib.atoiAll (U.getD i []) ≠ .ok v
      · have ca := c_strconv_Atoi_bad (U.getD i []) hwl hb
        refine .inr ⟨rfl, use_fn ⟨_, _, rfl, ca, ?_⟩⟩
        rintro _ ⟨v, u, x, rfl⟩
        refine ⟨rfl, ?_⟩
        refine ask_intro ift_err ?_
        repeat' (first | refine bsplit_true ?_ | refine bsplit_false ?_)
        exact ⟨⟨rfl, ⟨rfl, rfl⟩, rfl, trivial⟩, rfl⟩
      · obtain ⟨v, hv⟩ : ∃ v, Lib.atoiAll (U.getD i []) = .ok v := by
          rcases num_cases (Lib.atoiAll (U.getD i [])) with hq | hq | hq
          · exact hq
          · exact absurd (fun v e => by rw [hq] at e; cases e) hb
          · exact absurd (fun v e => by rw [hq] at e; cases e) hb
        have ca := c_strconv_Atoi_ok (U.getD i []) hwl v hv
        have cw := c_impl_within v 0 999
        cases hin : inR v 0 999 with
        | false =>
          rw [hin] at cw
          refine .inl ⟨_, _, rfl, ca, rfl, ?_⟩
          refine ask_intro ift_err ?_
          repeat' (first | refine bsplit_true ?_ | refine bsplit_false ?_)
          refine .inl ⟨_, _, rfl, cw, rfl, ?_⟩
          repeat' (first | refine bsplit_true ?_ | refine bsplit_false ?_)
          exact ⟨⟨rfl, ⟨rfl, rfl⟩, rfl, trivial⟩, rfl⟩
        | true =>
          rw [hin] at cw
          have y4 := inR_iff.1 hin
          have co := c_strconv_Itoa v (by omega) (by omega)
          have hne := numW_no hx hin
          refine .inl ⟨_, _, rfl, ca, rfl, ?_⟩
          refine ask_intro ift_err ?_
          repeat' (first | refine bsplit_true ?_ | refine bsplit_false ?_)
          refine .inl ⟨_, _, rfl, cw, rfl, ?_⟩
          repeat' (first | refine bsplit_true ?_ | refine bsplit_false ?_)
          refine .inl ⟨_, _, rfl, co, rfl, ?_⟩
          repeat' (first | refine bsplit_true ?_ | refine bsplit_false ?_)
          refine bsplit_of_true (show (!((tx (Lib.itoa v)).toList == (tx (U.getD i [])).toList)) = true by rw [tx_beq, decide_eq_false hne]; rfl) ?_
          exact ⟨⟨rfl, ⟨rfl, rfl⟩, rfl, trivial⟩, rfl⟩
  · obtain rfl : i = U.length := by omega
    have hn2 : numsW U = some n := by rw [← hn, List.take_length]
    rw [hn2] at hV
    simp only at hV
    refine bsplit_of_false (decide_eq_false (show ¬ (U.length : Int) < (U.length : Int) by omega)) ?_
    refine ask_intro ⟨by decide, by decide⟩ ?_
    refine ask_intro (by decide) ?_
    refine ask_intro ⟨by decide, by decide⟩ ?_
    refine ask_intro (by decide) ?_
    refine chk_intro (by kernel_rfl) ?_
    by_cases hw1 : n.length < 1
    · rw [show wantOK 0 n.length = false by unfold wantOK; simp; omega] at hV
      subst hV
      refine bsplit_of_false (decide_eq_false (show ¬ (n.length : Int) ≥ 1 by omega)) ?_
      repeat' (first | refine bsplit_true ?_ | refine bsplit_false ?_)
      exact ⟨⟨rfl, ⟨rfl, rfl, rfl, fun j hj => ⟨rfl, rfl⟩⟩, rfl, trivial⟩, rfl⟩
    refine bsplit_of_true (decide_eq_true (show (n.length : Int) ≥ 1 by omega)) ?_
    repeat' (first | refine bsplit_true ?_ | refine bsplit_false ?_)
    by_cases hw9 : 9 < n.length
    · rw [show wantOK 0 n.length = false by unfold wantOK; simp; omega] at hV
      subst hV
      exact ⟨⟨rfl, ⟨rfl, rfl, rfl, fun j hj => ⟨rfl, rfl⟩⟩, congrArg Value.bool (decide_eq_false (show ¬ (n.length : Int) ≤ 9 by omega)), trivial⟩, rfl⟩
    · rw [show wantOK 0 n.length = true by unfold wantOK; simp; omega] at hV
      subst hV
      exact ⟨⟨rfl, ⟨rfl, rfl, rfl, fun j hj => ⟨rfl, rfl⟩⟩, congrArg Value.bool (decide_eq_true (show (n.length : Int) ≤ 9 by omega)), trivial⟩, rfl⟩
set_option maxHeartbeats 3200000 in
theorem c_impl_policyLine_1 (t : List UInt8) (ht : t.length ≤ 1000000) (hK : kindW ((cutL 32 t).getD 0 []) = 1) : FnOK Tryz.prog 20 [dT t] (lineR (lineM t)) := by
  have cc := c_strings_Split t 32 ht
  have hWl := cutL_len 32 t
  have hWm := cutL_memlen 32 t
  obtain ⟨V, hV⟩ : ∃ V, V = lineM t := ⟨_, rfl⟩
  rw [← hV]
  unfold lineM at hV
  generalize cutL 32 t = W at *
  have ci := (c_slices_Index (W.getD 0 [])).weak (xs := [.d (.l 4 (fun i => ([[D.v (.string ⟨#[111, 119, 110]⟩)], [D.v (.string ⟨#[108, 97, 110, 101]⟩)], [D.v (.string ⟨#[98, 101, 108, 108]⟩)], [D.v (.string ⟨#[115, 108, 111, 116]⟩)]] : List (List D)).getD i [])), dT (W.getD 0 [])]) ⟨LVLe.d (DLe.l rfl (fun i hi => names_row i hi)), LVLe.refl _, trivial⟩
  rw [hK] at ci hV
  refine fn_of lv20 Tryz.func20 rfl rfl (by kernel_rfl) rfl ?_
  refine .inl ⟨_, _, rfl, cc, rfl, ?_⟩
  refine ask_intro ⟨by decide, by show (0 : Int) < (W.length : Int); omega⟩ ?_
  refine ask_intro (show 0 < W.length by omega) ?_
  refine .inl ⟨_, _, rfl, ci, rfl, ?_⟩
  repeat' (first | refine bsplit_true ?_ | refine bsplit_false ?_)
  rw [if_neg (by decide)] at hV
  obtain ⟨U, hU⟩ : ∃ U, U = W.drop 1 := ⟨_, rfl⟩
  have hUl : U.length + 1 = W.length := by rw [hU, List.length_drop]; omega
  have hUm : ∀ i, i < U.length → (U.getD i []).length ≤ t.length := fun i hi => hWm _ (by rw [getD_at _ hi]; exact List.mem_of_mem_drop (i := 1) (by rw [← hU]; exact List.getElem_mem hi))
  have hUF : ∀ i, txsF W (1 + i) = txsF U i := fun i => by rw [hU]; exact dropW W i
  rw [← hU] at hV
  have hul2 : ((W.length : Int) - 1).toNat = U.length := by omega
  refine ask_intro ⟨by decide, by show (1 : Int) ≤ (W.length : Int); omega, by show (W.length : Int) ≤ (W.length : Int); omega, .inr (fun i hi => rfl)⟩ ?_
  refine ⟨{ x : Nat × List Int // x.1 ≤ U.length ∧ x.2.length = x.1 ∧ numsW (U.take x.1) = some x.2 }, fun x => ⟨frL [(6, di 1), (7, .row 13), (25, .d (txs U)), (26, di U.length), (27, di x.1.1)], hpL [(13, rowE x.1.2)], 100, 0⟩, fun x => U.length - x.1.1, ⟨(0, []), Nat.zero_le _, rfl, rfl⟩,
    le_of [(13, 16384)] rfl rfl rfl rfl (tellHp_row rfl rfl rfl (fun j hj => absurd hj (Nat.not_lt_zero _)) tellHp_nil) (tellFr_v rfl rfl (tellFr_row rfl rfl (tellFr_d rfl (DLe.l hul2 (fun i hi => hUF i)) (tellFr_v rfl (congrArg (Value.int .i64) (show ((((W.length : Int) - 1).toNat : Nat) : Int) = (U.length : Int) by omega)) (tellFr_v rfl rfl trivial))))), ?_⟩
  rintro ⟨⟨i, n⟩, hi, hln, hn⟩
  simp only at hi hln hn
  by_cases h : i < U.length
  · have hwi : IntKind.i64.wrap ((i : Int) + 1) = ((i + 1 : Nat) : Int) := wrap_i64 (i + 1) (by omega) (by omega)
    have hsn : ∀ v : Int, (n ++ [v]).length = n.length + 1 := fun v => by simp
    have hwl : (U.getD i []).length ≤ 1000000 := Nat.le_trans (hUm i h) ht
    refine bsplit_of_true (decide_eq_true (show (i : Int) < (U.length : Int) by omega)) ?_
    refine ask_intro ⟨by show (0 : Int) ≤ (i : Int); omega, by show (i : Int) < (U.length : Int); omega, rfl⟩ ?_
    cases hx : numW (U.getD i []) with
    | some v =>
      obtain ⟨y1, y2, y3⟩ := numW_yes hx
      have y4 := inR_iff.1 y2
      have ca := c_strconv_Atoi_ok (U.getD i []) hwl v y1
      have cw := c_impl_within v 0 999
      rw [y2] at cw
      have co := c_strconv_Itoa v (by omega) (by omega)
      rw [y3] at co
      refine .inl ⟨_, _, rfl, ca, rfl, ?_⟩
      refine ask_intro ift_err ?_
      repeat' (first | refine bsplit_true ?_ | refine bsplit_false ?_)
      refine .inl ⟨_, _, rfl, cw, rfl, ?_⟩
      repeat' (first | refine bsplit_true ?_ | refine bsplit_false ?_)
      refine .inl ⟨_, _, rfl, co, rfl, ?_⟩
      repeat' (first | refine bsplit_true ?_ | refine bsplit_false ?_)
      refine bsplit_of_false (show (!((tx (U.getD i [])).toList == (tx (U.getD i [])).toList)) = false by simp) ?_
      refine ask_intro ⟨by show (n.length + 1) * 8 ≤ 140737488355328; omega, by show n.length + 1 ≤ 9223372036854775807; omega, fun j hj => by obtain rfl : j = 0 := (by omega); rfl⟩ ?_
      exact ⟨⟨(i + 1, n ++ [v]), by show i + 1 ≤ U.length; omega, by show (n ++ [v]).length = i + 1; rw [hsn]; omega, nums_more2 U h hn hx⟩,
        le_of [(13, 16580)] rfl rfl rfl rfl (tellHp_row rfl rfl (hsn _).symm (fun j hj => upto_snoc n _ _ rfl j hj) tellHp_nil) (tellFr_v rfl rfl (tellFr_row rfl rfl (tellFr_d rfl (DLe.refl _) (tellFr_v rfl rfl (tellFr_v rfl (congrArg (Value.int .i64) hwi) trivial))))), by show U.length - (i + 1) < U.length - i; omega⟩
    | none =>
      rw [nums_fail2 U h hn hx] at hV
      subst hV
      by_cases hb : ∀ v, Lib.atoiAll (U.getD i []) ≠ .ok v
      · have ca := c_strconv_Atoi_bad (U.getD i []) hwl hb
        refine .inr ⟨rfl, use_fn ⟨_, _, rfl, ca, ?_⟩⟩
        rintro _ ⟨v, u, x, rfl⟩
        refine ⟨rfl, ?_⟩
        refine ask_intro ift_err ?_
        repeat' (first | refine bsplit_true ?_ | refine bsplit_false ?_)
        exact ⟨⟨rfl, ⟨rfl, rfl⟩, rfl, trivial⟩, rfl⟩
      · obtain ⟨v, hv⟩ : ∃ v, Lib.atoiAll (U.getD i []) = .ok v := by
          rcases num_cases (Lib.atoiAll (U.getD i [])) with hq | hq | hq
          · exact hq
          · exact absurd (fun v e => by rw [hq] at e; cases e) hb
          · exact absurd (fun v e => by rw [hq] at e; cases e) hb
        have ca := c_strconv_Atoi_ok (U.getD i []) hwl v hv
        have cw := c_impl_within v 0 999
        cases hin : inR v 0 999 with
        | false =>
          rw [hin] at cw
          refine .inl ⟨_, _, rfl, ca, rfl, ?_⟩
          refine ask_intro ift_err ?_
          repeat' (first | refine bsplit_true ?_ | refine bsplit_false ?_)
          refine .inl ⟨_, _, rfl, cw, rfl, ?_⟩
          repeat' (first | refine bsplit_true ?_ | refine bsplit_false ?_)
          exact ⟨⟨rfl, ⟨rfl, rfl⟩, rfl, trivial⟩, rfl⟩
        | true =>
          rw [hin] at cw
          have y4 := inR_iff.1 hin
          have co := c_strconv_Itoa v (by omega) (by omega)
          have hne := numW_no hx hin
          refine .inl ⟨_, _, rfl, ca, rfl, ?_⟩
          refine ask_intro ift_err ?_
          repeat' (first | refine bsplit_true ?_ | refine bsplit_false ?_)
          refine .inl ⟨_, _, rfl, cw, rfl, ?_⟩
          repeat' (first | refine bsplit_true ?_ | refine bsplit_false ?_)
          refine .inl ⟨_, _, rfl, co, rfl, ?_⟩
          repeat' (first | refine bsplit_true ?_ | refine bsplit_false ?_)
          refine bsplit_of_true (show (!((tx (Lib.itoa v)).toList == (tx (U.getD i [])).toList)) = true by rw [tx_beq, decide_eq_false hne]; rfl) ?_
          exact ⟨⟨rfl, ⟨rfl, rfl⟩, rfl, trivial⟩, rfl⟩
  · obtain rfl : i = U.length := by omega
    have hn2 : numsW U = some n := by rw [← hn, List.take_length]
    rw [hn2] at hV
    simp only at hV
    refine bsplit_of_false (decide_eq_false (show ¬ (U.length : Int) < (U.length : Int) by omega)) ?_
    refine ask_intro ⟨by decide, by decide⟩ ?_
    refine ask_intro (by decide) ?_
    refine ask_intro ⟨by decide, by decide⟩ ?_
    refine ask_intro (by decide) ?_
    refine chk_intro (by kernel_rfl) ?_
    by_cases hw1 : n.length < 5
    · rw [show wantOK 1 n.length = false by unfold wantOK; simp; omega] at hV
      subst hV
      refine bsplit_of_false (decide_eq_false (show ¬ (n.length : Int) ≥ 5 by omega)) ?_
      repeat' (first | refine bsplit_true ?_ | refine bsplit_false ?_)
      exact ⟨⟨rfl, ⟨rfl, rfl, rfl, fun j hj => ⟨rfl, rfl⟩⟩, rfl, trivial⟩, rfl⟩
    refine bsplit_of_true (decide_eq_true (show (n.length : Int) ≥ 5 by omega)) ?_
    repeat' (first | refine bsplit_true ?_ | refine bsplit_false ?_)
    by_cases hw9 : 5 < n.length
    · rw [show wantOK 1 n.length = false by unfold wantOK; simp; omega] at hV
      subst hV
      exact ⟨⟨rfl, ⟨rfl, rfl, rfl, fun j hj => ⟨rfl, rfl⟩⟩, congrArg Value.bool (decide_eq_false (show ¬ (n.length : Int) ≤ 5 by omega)), trivial⟩, rfl⟩
    · rw [show wantOK 1 n.length = true by unfold wantOK; simp; omega] at hV
      subst hV
      exact ⟨⟨rfl, ⟨rfl, rfl, rfl, fun j hj => ⟨rfl, rfl⟩⟩, congrArg Value.bool (decide_eq_true (show (n.length : Int) ≤ 5 by omega)), trivial⟩, rfl⟩
set_option maxHeartbeats 3200000 in
theorem c_impl_policyLine_2 (t : List UInt8) (ht : t.length ≤ 1000000) (hK : kindW ((cutL 32 t).getD 0 []) = 2) : FnOK Tryz.prog 20 [dT t] (lineR (lineM t)) := by
  have cc := c_strings_Split t 32 ht
  have hWl := cutL_len 32 t
  have hWm := cutL_memlen 32 t
  obtain ⟨V, hV⟩ : ∃ V, V = lineM t := ⟨_, rfl⟩
  rw [← hV]
  unfold lineM at hV
  generalize cutL 32 t = W at *
  have ci := (c_slices_Index (W.getD 0 [])).weak (xs := [.d (.l 4 (fun i => ([[D.v (.string ⟨#[111, 119, 110]⟩)], [D.v (.string ⟨#[108, 97, 110, 101]⟩)], [D.v (.string ⟨#[98, 101, 108, 108]⟩)], [D.v (.string ⟨#[115, 108, 111, 116]⟩)]] : List (List D)).getD i [])), dT (W.getD 0 [])]) ⟨LVLe.d (DLe.l rfl (fun i hi => names_row i hi)), LVLe.refl _, trivial⟩
  rw [hK] at ci hV
  refine fn_of lv20 Tryz.func20 rfl rfl (by kernel_rfl) rfl ?_
  refine .inl ⟨_, _, rfl, cc, rfl, ?_⟩
  refine ask_intro ⟨by decide, by show (0 : Int) < (W.length : Int); omega⟩ ?_
  refine ask_intro (show 0 < W.length by omega) ?_
  refine .inl ⟨_, _, rfl, ci, rfl, ?_⟩
  repeat' (first | refine bsplit_true ?_ | refine bsplit_false ?_)
  rw [if_neg (by decide)] at hV
  obtain ⟨U, hU⟩ : ∃ U, U = W.drop 1 := ⟨_, rfl⟩
  have hUl : U.length + 1 = W.length := by rw [hU, List.length_drop]; omega
  have hUm : ∀ i, i < U.length → (U.getD i []).length ≤ t.length := fun i hi => hWm _ (by rw [getD_at _ hi]; exact List.mem_of_mem_drop (i := 1) (by rw [← hU]; exact List.getElem_mem hi))
  have hUF : ∀ i, txsF W (1 + i) = txsF U i := fun i => by rw [hU]; exact dropW W i
  rw [← hU] at hV
  have hul2 : ((W.length : Int) - 1).toNat = U.length := by omega
  refine ask_intro ⟨by decide, by show (1 : Int) ≤ (W.length : Int); omega, by show (W.length : Int) ≤ (W.length : Int); omega, .inr (fun i hi => rfl)⟩ ?_
  refine ⟨{ x : Nat × List Int // x.1 ≤ U.length ∧ x.2.length = x.1 ∧ numsW (U.take x.1) = some x.2 }, fun x => ⟨frL [(6, di 2), (7, .row 13), (25, .d (txs U)), (26, di U.length), (27, di x.1.1)], hpL [(13, rowE x.1.2)], 100, 0⟩, fun x => U.length - x.1.1, ⟨(0, []), Nat.zero_le _, rfl, rfl⟩,
    le_of [(13, 16384)] rfl rfl rfl rfl (tellHp_row rfl rfl rfl (fun j hj => absurd hj (Nat.not_lt_zero _)) tellHp_nil) (tellFr_v rfl rfl (tellFr_row rfl rfl (tellFr_d rfl (DLe.l hul2 (fun i hi => hUF i)) (tellFr_v rfl (congrArg (Value.int .i64) (show ((((W.length : Int) - 1).toNat : Nat) : Int) = (U.length : Int) by omega)) (tellFr_v rfl rfl trivial))))), ?_⟩
  rintro ⟨⟨i, n⟩, hi, hln, hn⟩
  simp only at hi hln hn
  by_cases h : i < U.length
  · have hwi : IntKind.i64.wrap ((i : Int) + 1) = ((i + 1 : Nat) : Int) := wrap_i64 (i + 1) (by omega) (by omega)
    have hsn : ∀ v : Int, (n ++ [v]).length = n.length + 1 := fun v => by simp
    have hwl : (U.getD i []).length ≤ 1000000 := Nat.le_trans (hUm i h) ht
    refine bsplit_of_true (decide_eq_true (show (i : Int) < (U.length : Int) by omega)) ?_
    refine ask_intro ⟨by show (0 : Int) ≤ (i : Int); omega, by show (i : Int) < (U.length : Int); omega, rfl⟩ ?_
    cases hx : numW (U.getD i []) with
    | some v =>
      obtain ⟨y1, y2, y3⟩ := numW_yes hx
      have y4 := inR_iff.1 y2
      have ca := c_strconv_Atoi_ok (U.getD i []) hwl v y1
      have cw := c_impl_within v 0 999
      rw [y2] at cw
      have co := c_strconv_Itoa v (by omega) (by omega)
      rw [y3] at co
      refine .inl ⟨_, _, rfl, ca, rfl, ?_⟩
      refine ask_intro ift_err ?_
      repeat' (first | refine bsplit_true ?_ | refine bsplit_false ?_)
      refine .inl ⟨_, _, rfl, cw, rfl, ?_⟩
      repeat' (first | refine bsplit_true ?_ | refine bsplit_false ?_)
      refine .inl ⟨_, _, rfl, co, rfl, ?_⟩
      repeat' (first | refine bsplit_true ?_ | refine bsplit_false ?_)
      refine bsplit_of_false (show (!((tx (U.getD i [])).toList == (tx (U.getD i [])).toList)) = false by simp) ?_
      refine ask_intro ⟨by show (n.length + 1) * 8 ≤ 140737488355328; omega, by show n.length + 1 ≤ 9223372036854775807; omega, fun j hj => by obtain rfl : j = 0 := (by omega); rfl⟩ ?_
      exact ⟨⟨(i + 1, n ++ [v]), by show i + 1 ≤ U.length; omega, by show (n ++ [v]).length = i + 1; rw [hsn]; omega, nums_more2 U h hn hx⟩,
        le_of [(13, 16580)] rfl rfl rfl rfl (tellHp_row rfl rfl (hsn _).symm (fun j hj => upto_snoc n _ _ rfl j hj) tellHp_nil) (tellFr_v rfl rfl (tellFr_row rfl rfl (tellFr_d rfl (DLe.refl _) (tellFr_v rfl rfl (tellFr_v rfl (congrArg (Value.int .i64) hwi) trivial))))), by show U.length - (i + 1) < U.length - i; omega⟩
    | none =>
      rw [nums_fail2 U h hn hx] at hV
      subst hV
      by_cases hb : ∀ v, Lib.atoiAll (U.getD i []) ≠ .ok v
      · have ca := c_strconv_Atoi_bad (U.getD i []) hwl hb
        refine .inr ⟨rfl, use_fn ⟨_, _, rfl, ca, ?_⟩⟩
        rintro _ ⟨v, u, x, rfl⟩
        refine ⟨rfl, ?_⟩
        refine ask_intro ift_err ?_
        repeat' (first | refine bsplit_true ?_ | refine bsplit_false ?_)
        exact ⟨⟨rfl, ⟨rfl, rfl⟩, rfl, trivial⟩, rfl⟩
      · obtain ⟨v, hv⟩ : ∃ v, Lib.atoiAll (U.getD i []) = .ok v := by
          rcases num_cases (Lib.atoiAll (U.getD i [])) with hq | hq | hq
          · exact hq
          · exact absurd (fun v e => by rw [hq] at e; cases e) hb
          · exact absurd (fun v e => by rw [hq] at e; cases e) hb
        have ca := c_strconv_Atoi_ok (U.getD i []) hwl v hv
        have cw := c_impl_within v 0 999
        cases hin : inR v 0 999 with
        | false =>
          rw [hin] at cw
          refine .inl ⟨_, _, rfl, ca, rfl, ?_⟩
          refine ask_intro ift_err ?_
          repeat' (first | refine bsplit_true ?_ | refine bsplit_false ?_)
          refine .inl ⟨_, _, rfl, cw, rfl, ?_⟩
          repeat' (first | refine bsplit_true ?_ | refine bsplit_false ?_)
          exact ⟨⟨rfl, ⟨rfl, rfl⟩, rfl, trivial⟩, rfl⟩
        | true =>
          rw [hin] at cw
          have y4 := inR_iff.1 hin
          have co := c_strconv_Itoa v (by omega) (by omega)
          have hne := numW_no hx hin
          refine .inl ⟨_, _, rfl, ca, rfl, ?_⟩
          refine ask_intro ift_err ?_
          repeat' (first | refine bsplit_true ?_ | refine bsplit_false ?_)
          refine .inl ⟨_, _, rfl, cw, rfl, ?_⟩
          repeat' (first | refine bsplit_true ?_ | refine bsplit_false ?_)
          refine .inl ⟨_, _, rfl, co, rfl, ?_⟩
          repeat' (first | refine bsplit_true ?_ | refine bsplit_false ?_)
          refine bsplit_of_true (show (!((tx (Lib.itoa v)).toList == (tx (U.getD i [])).toList)) = true by rw [tx_beq, decide_eq_false hne]; rfl) ?_
          exact ⟨⟨rfl, ⟨rfl, rfl⟩, rfl, trivial⟩, rfl⟩
  · obtain rfl : i = U.length := by omega
    have hn2 : numsW U = some n := by rw [← hn, List.take_length]
    rw [hn2] at hV
    simp only at hV
    refine bsplit_of_false (decide_eq_false (show ¬ (U.length : Int) < (U.length : Int) by omega)) ?_
    refine ask_intro ⟨by decide, by decide⟩ ?_
    refine ask_intro (by decide) ?_
    refine ask_intro ⟨by decide, by decide⟩ ?_
    refine ask_intro (by decide) ?_
    refine chk_intro (by kernel_rfl) ?_
    by_cases hw1 : n.length < 2
    · rw [show wantOK 2 n.length = false by unfold wantOK; simp; omega] at hV
      subst hV
      refine bsplit_of_false (decide_eq_false (show ¬ (n.length : Int) ≥ 2 by omega)) ?_
      repeat' (first | refine bsplit_true ?_ | refine bsplit_false ?_)
      exact ⟨⟨rfl, ⟨rfl, rfl, rfl, fun j hj => ⟨rfl, rfl⟩⟩, rfl, trivial⟩, rfl⟩
    refine bsplit_of_true (decide_eq_true (show (n.length : Int) ≥ 2 by omega)) ?_
    repeat' (first | refine bsplit_true ?_ | refine bsplit_false ?_)
    by_cases hw9 : 2 < n.length
    · rw [show wantOK 2 n.length = false by unfold wantOK; simp; omega] at hV
      subst hV
      exact ⟨⟨rfl, ⟨rfl, rfl, rfl, fun j hj => ⟨rfl, rfl⟩⟩, congrArg Value.bool (decide_eq_false (show ¬ (n.length : Int) ≤ 2 by omega)), trivial⟩, rfl⟩
    · rw [show wantOK 2 n.length = true by unfold wantOK; simp; omega] at hV
      subst hV
      exact ⟨⟨rfl, ⟨rfl, rfl, rfl, fun j hj => ⟨rfl, rfl⟩⟩, congrArg Value.bool (decide_eq_true (show (n.length : Int) ≤ 2 by omega)), trivial⟩, rfl⟩
set_option maxHeartbeats 3200000 in
theorem c_impl_policyLine_3 (t : List UInt8) (ht : t.length ≤ 1000000) (hK : kindW ((cutL 32 t).getD 0 []) = 3) : FnOK Tryz.prog 20 [dT t] (lineR (lineM t)) := by
  have cc := c_strings_Split t 32 ht
  have hWl := cutL_len 32 t
  have hWm := cutL_memlen 32 t
  obtain ⟨V, hV⟩ : ∃ V, V = lineM t := ⟨_, rfl⟩
  rw [← hV]
  unfold lineM at hV
  generalize cutL 32 t = W at *
  have ci := (c_slices_Index (W.getD 0 [])).weak (xs := [.d (.l 4 (fun i => ([[D.v (.string ⟨#[111, 119, 110]⟩)], [D.v (.string ⟨#[108, 97, 110, 101]⟩)], [D.v (.string ⟨#[98, 101, 108, 108]⟩)], [D.v (.string ⟨#[115, 108, 111, 116]⟩)]] : List (List D)).getD i [])), dT (W.getD 0 [])]) ⟨LVLe.d (DLe.l rfl (fun i hi => names_row i hi)), LVLe.refl _, trivial⟩
  rw [hK] at ci hV
  refine fn_of lv20 Tryz.func20 rfl rfl (by kernel_rfl) rfl ?_
  refine .inl ⟨_, _, rfl, cc, rfl, ?_⟩
  refine ask_intro ⟨by decide, by show (0 : Int) < (W.length : Int); omega⟩ ?_
  refine ask_intro (show 0 < W.length by omega) ?_
  refine .inl ⟨_, _, rfl, ci, rfl, ?_⟩
  repeat' (first | refine bsplit_true ?_ | refine bsplit_false ?_)
  rw [if_neg (by decide)] at hV
  obtain ⟨U, hU⟩ : ∃ U, U = W.drop 1 := ⟨_, rfl⟩
  have hUl : U.length + 1 = W.length := by rw [hU, List.length_drop]; omega
  have hUm : ∀ i, i < U.length → (U.getD i []).length ≤ t.length := fun i hi => hWm _ (by rw [getD_at _ hi]; exact List.mem_of_mem_drop (i := 1) (by rw [← hU]; exact List.getElem_mem hi))
  have hUF : ∀ i, txsF W (1 + i) = txsF U i := fun i => by rw [hU]; exact dropW W i
  rw [← hU] at hV
  have hul2 : ((W.length : Int) - 1).toNat = U.length := by omega
  refine ask_intro ⟨by decide, by show (1 : Int) ≤ (W.length : Int); omega, by show (W.length : Int) ≤ (W.length : Int); omega, .inr (fun i hi => rfl)⟩ ?_
  refine ⟨{ x : Nat × List Int // x.1 ≤ U.length ∧ x.2.length = x.1 ∧ numsW (U.take x.1) = some x.2 }, fun x => ⟨frL [(6, di 3), (7, .row 13), (25, .d (txs U)), (26, di U.length), (27, di x.1.1)], hpL [(13, rowE x.1.2)], 100, 0⟩, fun x => U.length - x.1.1, ⟨(0, []), Nat.zero_le _, rfl, rfl⟩,
    le_of [(13, 16384)] rfl rfl rfl rfl (tellHp_row rfl rfl rfl (fun j hj => absurd hj (Nat.not_lt_zero _)) tellHp_nil) (tellFr_v rfl rfl (tellFr_row rfl rfl (tellFr_d rfl (DLe.l hul2 (fun i hi => hUF i)) (tellFr_v rfl (congrArg (Value.int .i64) (show ((((W.length : Int) - 1).toNat : Nat) : Int) = (U.length : Int) by omega)) (tellFr_v rfl rfl trivial))))), ?_⟩
  rintro ⟨⟨i, n⟩, hi, hln, hn⟩
  simp only at hi hln hn
  by_cases h : i < U.length
  · have hwi : IntKind.i64.wrap ((i : Int) + 1) = ((i + 1 : Nat) : Int) := wrap_i64 (i + 1) (by omega) (by omega)
    have hsn : ∀ v : Int, (n ++ [v]).length = n.length + 1 := fun v => by simp
    have hwl : (U.getD i []).length ≤ 1000000 := Nat.le_trans (hUm i h) ht
    refine bsplit_of_true (decide_eq_true (show (i : Int) < (U.length : Int) by omega)) ?_
    refine ask_intro ⟨by show (0 : Int) ≤ (i : Int); omega, by show (i : Int) < (U.length : Int); omega, rfl⟩ ?_
    cases hx : numW (U.getD i []) with
    | some v =>
      obtain ⟨y1, y2, y3⟩ := numW_yes hx
      have y4 := inR_iff.1 y2
      have ca := c_strconv_Atoi_ok (U.getD i []) hwl v y1
      have cw := c_impl_within v 0 999
      rw [y2] at cw
      have co := c_strconv_Itoa v (by omega) (by omega)
      rw [y3] at co
      refine .inl ⟨_, _, rfl, ca, rfl, ?_⟩
      refine ask_intro ift_err ?_
      repeat' (first | refine bsplit_true ?_ | refine bsplit_false ?_)
      refine .inl ⟨_, _, rfl, cw, rfl, ?_⟩
      repeat' (first | refine bsplit_true ?_ | refine bsplit_false ?_)
      refine .inl ⟨_, _, rfl, co, rfl, ?_⟩
      repeat' (first | refine bsplit_true ?_ | refine bsplit_false ?_)
      refine bsplit_of_false (show (!((tx (U.getD i [])).toList == (tx (U.getD i [])).toList)) = false by simp) ?_
      refine ask_intro ⟨by show (n.length + 1) * 8 ≤ 140737488355328; omega, by show n.length + 1 ≤ 9223372036854775807; omega, fun j hj => by obtain rfl : j = 0 := (by omega); rfl⟩ ?_
      exact ⟨⟨(i + 1, n ++ [v]), by show i + 1 ≤ U.length; omega, by show (n ++ [v]).length = i + 1; rw [hsn]; omega, nums_more2 U h hn hx⟩,
        le_of [(13, 16580)] rfl rfl rfl rfl (tellHp_row rfl rfl (hsn _).symm (fun j hj => upto_snoc n _ _ rfl j hj) tellHp_nil) (tellFr_v rfl rfl (tellFr_row rfl rfl (tellFr_d rfl (DLe.refl _) (tellFr_v rfl rfl (tellFr_v rfl (congrArg (Value.int .i64) hwi) trivial))))), by show U.length - (i + 1) < U.length - i; omega⟩
    | none =>
      rw [nums_fail2 U h hn hx] at hV
      subst hV
      by_cases hb : ∀ v, Lib.atoiAll (U.getD i []) ≠ .ok v
      · have ca := c_strconv_Atoi_bad (U.getD i []) hwl hb
        refine .inr ⟨rfl, use_fn ⟨_, _, rfl, ca, ?_⟩⟩
        rintro _ ⟨v, u, x, rfl⟩
        refine ⟨rfl, ?_⟩
        refine ask_intro ift_err ?_
        repeat' (first | refine bsplit_true ?_ | refine bsplit_false ?_)
        exact ⟨⟨rfl, ⟨rfl, rfl⟩, rfl, trivial⟩, rfl⟩
      · obtain ⟨v, hv⟩ : ∃ v, Lib.atoiAll (U.getD i []) = .ok v := by
          rcases num_cases (Lib.atoiAll (U.getD i [])) with hq | hq | hq
          · exact hq
          · exact absurd (fun v e => by rw [hq] at e; cases e) hb
          · exact absurd (fun v e => by rw [hq] at e; cases e) hb
        have ca := c_strconv_Atoi_ok (U.getD i []) hwl v hv
        have cw := c_impl_within v 0 999
        cases hin : inR v 0 999 with
        | false =>
          rw [hin] at cw
          refine .inl ⟨_, _, rfl, ca, rfl, ?_⟩
          refine ask_intro ift_err ?_
          repeat' (first | refine bsplit_true ?_ | refine bsplit_false ?_)
          refine .inl ⟨_, _, rfl, cw, rfl, ?_⟩
          repeat' (first | refine bsplit_true ?_ | refine bsplit_false ?_)
          exact ⟨⟨rfl, ⟨rfl, rfl⟩, rfl, trivial⟩, rfl⟩
        | true =>
          rw [hin] at cw
          have y4 := inR_iff.1 hin
          have co := c_strconv_Itoa v (by omega) (by omega)
          have hne := numW_no hx hin
          refine .inl ⟨_, _, rfl, ca, rfl, ?_⟩
          refine ask_intro ift_err ?_
          repeat' (first | refine bsplit_true ?_ | refine bsplit_false ?_)
          refine .inl ⟨_, _, rfl, cw, rfl, ?_⟩
          repeat' (first | refine bsplit_true ?_ | refine bsplit_false ?_)
          refine .inl ⟨_, _, rfl, co, rfl, ?_⟩
          repeat' (first | refine bsplit_true ?_ | refine bsplit_false ?_)
          refine bsplit_of_true (show (!((tx (Lib.itoa v)).toList == (tx (U.getD i [])).toList)) = true by rw [tx_beq, decide_eq_false hne]; rfl) ?_
          exact ⟨⟨rfl, ⟨rfl, rfl⟩, rfl, trivial⟩, rfl⟩
  · obtain rfl : i = U.length := by omega
    have hn2 : numsW U = some n := by rw [← hn, List.take_length]
    rw [hn2] at hV
    simp only at hV
    refine bsplit_of_false (decide_eq_false (show ¬ (U.length : Int) < (U.length : Int) by omega)) ?_
    refine ask_intro ⟨by decide, by decide⟩ ?_
    refine ask_intro (by decide) ?_
    refine ask_intro ⟨by decide, by decide⟩ ?_
    refine ask_intro (by decide) ?_
    refine chk_intro (by kernel_rfl) ?_
    by_cases hw1 : n.length < 2
    · rw [show wantOK 3 n.length = false by unfold wantOK; simp; omega] at hV
      subst hV
      refine bsplit_of_false (decide_eq_false (show ¬ (n.length : Int) ≥ 2 by omega)) ?_
      repeat' (first | refine bsplit_true ?_ | refine bsplit_false ?_)
      exact ⟨⟨rfl, ⟨rfl, rfl, rfl, fun j hj => ⟨rfl, rfl⟩⟩, rfl, trivial⟩, rfl⟩
    refine bsplit_of_true (decide_eq_true (show (n.length : Int) ≥ 2 by omega)) ?_
    repeat' (first | refine bsplit_true ?_ | refine bsplit_false ?_)
    by_cases hw9 : 2 < n.length
    · rw [show wantOK 3 n.length = false by unfold wantOK; simp; omega] at hV
      subst hV
      exact ⟨⟨rfl, ⟨rfl, rfl, rfl, fun j hj => ⟨rfl, rfl⟩⟩, congrArg Value.bool (decide_eq_false (show ¬ (n.length : Int) ≤ 2 by omega)), trivial⟩, rfl⟩
    · rw [show wantOK 3 n.length = true by unfold wantOK; simp; omega] at hV
      subst hV
      exact ⟨⟨rfl, ⟨rfl, rfl, rfl, fun j hj => ⟨rfl, rfl⟩⟩, congrArg Value.bool (decide_eq_true (show (n.length : Int) ≤ 2 by omega)), trivial⟩, rfl⟩
theorem c_impl_policyLine (t : List UInt8) (ht : t.length ≤ 1000000) : FnOK Tryz.prog 20 [dT t] (lineR (lineM t)) := by
  have h := kindW_in ((cutL 32 t).getD 0 [])
  by_cases hm : kindW ((cutL 32 t).getD 0 []) = -1
  · exact c_impl_policyLine_m t ht hm
  by_cases h0 : kindW ((cutL 32 t).getD 0 []) = 0
  · exact c_impl_policyLine_0 t ht h0
  by_cases h1 : kindW ((cutL 32 t).getD 0 []) = 1
  · exact c_impl_policyLine_1 t ht h1
  by_cases h2 : kindW ((cutL 32 t).getD 0 []) = 2
  · exact c_impl_policyLine_2 t ht h2
  exact c_impl_policyLine_3 t ht (by omega)
end Go.Proofs.YtojaakpnpdnbhaaGreatDoor.L

/- The program's ParsePolicy: a contract. -/
set_option linter.unusedVariables false
set_option linter.unusedSimpArgs false
set_option maxRecDepth 100000
namespace Go.Proofs.YtojaakpnpdnbhaaGreatDoor.L
open Go.RowKit
theorem cut_cons (b : UInt8) (s : List UInt8) : ∃ y r, cutL b s = y :: r := by
  cases h : cutL b s with
  | nil => have := (cutL_len b s).1; rw [h] at this; simp at this
  | cons y r => exact ⟨y, r, rfl⟩
set_option maxHeartbeats 6400000 in
theorem c_impl_ParsePolicy (t : List UInt8) (ht : t.length ≤ 1048576) : FnOK Tryz.prog 6 [dT t] (prR (parsePol polFault t)) := by
  have hsz := tx_size t
  obtain ⟨V, hV⟩ : ∃ V, V = parsePol polFault t := ⟨_, rfl⟩
  rw [← hV]
  unfold parsePol at hV
  by_cases h1000 : 1000 < t.length
  · rw [if_pos h1000] at hV
    subst hV
    refine fn_of lv6 Tryz.func6 rfl rfl (by kernel_rfl) rfl ?_
    refine bsplit_of_true (decide_eq_true (show ((tx t).size : Int) > 1000 by omega)) ?_
    exact ⟨⟨rfl, rfl, ⟨rfl, rfl⟩, ⟨rfl, rfl⟩, ⟨rfl, rfl⟩, ⟨rfl, rfl⟩, trivial⟩, rfl⟩
  rw [if_neg h1000] at hV
  obtain ⟨R, hR⟩ : ∃ R, R = parseR noPol 0 0 (cutL 10 t) := ⟨_, rfl⟩
  rw [← hR] at hV
  refine fn_of lv6 Tryz.func6 rfl rfl (by kernel_rfl) rfl ?_
  refine bsplit_of_false (decide_eq_false (show ¬ ((tx t).size : Int) > 1000 by omega)) ?_
  refine ⟨{ x : PolM × List UInt8 × Nat × Int // x.2.2.1 + x.2.1.length ≤ 1000 ∧ PolRead x.1 x.2.2.1 ∧ parseR x.1 x.2.2.2 (x.2.2.1 : Int) (cutL 10 x.2.1) = R }, fun x => ⟨frL [(0, dT x.1.2.1), (2, .ptr 10 0), (3, .ptr 11 0), (4, di x.1.2.2.1), (5, di x.1.2.2.2)], hpL [(10, .box 29 nil6), (11, .box 27 (rows4P 12 13 14 15)), (12, nestE x.1.1.own), (13, rowLane x.1.1.lns), (14, rowBell x.1.1.bls), (15, rowSlot x.1.1.pln)], 100, 0⟩, fun x => x.1.2.1.length, ⟨(noPol, t, 0, 0), by show 0 + t.length ≤ 1000; omega, PolRead.none, hR.symm⟩,
    Le.trans (nilBox (k := 8224) (i := 0) (t := 27) (cs := [.d (.v (.slice none 0 0)), .d (.v (.slice none 0 0)), .d (.v (.slice none 0 0)), .d (.v (.slice none 0 0))]) rfl rfl (nestE []) rfl rfl) (Le.trans (nilBox (k := 8224) (i := 1) (t := 27) (cs := [.row 12288, .d (.v (.slice none 0 0)), .d (.v (.slice none 0 0)), .d (.v (.slice none 0 0))]) rfl rfl (rowLane []) rfl rfl) (Le.trans (nilBox (k := 8224) (i := 2) (t := 27) (cs := [.row 12288, .row 12289, .d (.v (.slice none 0 0)), .d (.v (.slice none 0 0))]) rfl rfl (rowBell []) rfl rfl) (Le.trans (nilBox (k := 8224) (i := 3) (t := 27) (cs := [.row 12288, .row 12289, .row 12290, .d (.v (.slice none 0 0))]) rfl rfl (rowSlot []) rfl rfl) (le_of [(10, 0), (11, 8224), (12, 12288), (13, 12289), (14, 12290), (15, 12291)] rfl rfl rfl rfl (tellHp_box rfl rfl ⟨rfl, rfl, rfl, rfl, rfl, rfl, trivial⟩ (tellHp_box rfl rfl ⟨rfl, rfl, rfl, rfl, trivial⟩ (tellHp_nest rfl rfl rfl (fun i hi => absurd hi (Nat.not_lt_zero _)) (tellHp_row rfl rfl rfl (fun j hj => rfl) (tellHp_row rfl rfl rfl (fun j hj => rfl) (tellHp_row rfl rfl rfl (fun j hj => rfl) tellHp_nil))))))
      (tellFr_v rfl rfl (tellFr_ptr rfl rfl (tellFr_ptr rfl rfl (tellFr_v rfl rfl (tellFr_v rfl rfl trivial))))))))), ?_⟩
  rintro ⟨⟨p, s, i, last⟩, hi, hp, hQ⟩
  simp only at hi hp hQ
  have htot := hp.tot
  have hwi : IntKind.i64.wrap ((i : Int) + 1) = ((i + 1 : Nat) : Int) := wrap_i64 (i + 1) (by omega) (by omega)
  have hem := emp_ne s
  by_cases hs0 : s = []
  · have hQ2 : R = (p, (i : Int), true) := by rw [← hQ, hs0]; rfl
    rw [hQ2] at hV
    simp only at hV
    have hsm := hp.small (by omega)
    have cf := c_impl_PolicyFault p hsm
    refine bsplit_of_false (hem.trans (decide_eq_false (fun e => e hs0))) ?_
    refine .inl ⟨_, _, rfl, cf, rfl, ?_⟩
    by_cases hf : polFault p = 0
    · rw [if_pos hf] at hV
      subst hV
      refine bsplit_of_false (by simp [hf]) ?_
      exact ⟨⟨rfl, rfl, ⟨rfl, rfl, rfl, rfl, fun i hi => ⟨rfl, fun j hj => ⟨rfl, rfl⟩⟩⟩, ⟨rfl, rfl, rfl, fun i hi => ⟨rfl, rfl⟩⟩, ⟨rfl, rfl, rfl, fun i hi => ⟨rfl, rfl⟩⟩, ⟨rfl, rfl, rfl, fun i hi => ⟨rfl, rfl⟩⟩, trivial⟩, rfl⟩
    · rw [if_neg hf] at hV
      subst hV
      refine bsplit_of_true (by simp [hf]) ?_
      exact ⟨⟨rfl, rfl, ⟨rfl, rfl⟩, ⟨rfl, rfl⟩, ⟨rfl, rfl⟩, ⟨rfl, rfl⟩, trivial⟩, rfl⟩
  have hnb := hem.trans (decide_eq_true hs0)
  have ccut := c_strings_Cut s 10 (by omega)
  rcases cutL_cases 10 s with hfr | ⟨a, r, hsr, hfr⟩
  · rw [cut_miss 10 s hfr] at ccut
    rw [cutL_end hfr] at hQ
    have hQ2 : R = (noPol, (i : Int), false) := by rw [← hQ, parseR, if_neg hs0]
    rw [hQ2] at hV
    simp only at hV
    subst hV
    have cl := c_impl_policyLine s (by omega)
    refine bsplit_of_true hnb ?_
    refine .inl ⟨_, _, rfl, ccut, rfl, ?_⟩
    refine .inl ⟨_, _, rfl, cl, rfl, ?_⟩
    repeat' (first | refine bsplit_true ?_ | refine bsplit_false ?_)
    exact ⟨⟨rfl, rfl, ⟨rfl, rfl⟩, ⟨rfl, rfl⟩, ⟨rfl, rfl⟩, ⟨rfl, rfl⟩, trivial⟩, rfl⟩
  have hsl : s.length = a.length + r.length + 1 := by rw [hsr]; simp; omega
  have hc2 : Lib.cut s [10] = (a, r, true) := by rw [hsr]; exact cut_hit 10 a r hfr
  rw [hc2] at ccut
  obtain ⟨y, r', hcr⟩ := cut_cons 10 r
  have hcs : cutL 10 s = a :: cutL 10 r := by rw [hsr]; exact cutL_hit hfr
  rw [hcs, hcr] at hQ
  have cl := c_impl_policyLine a (by omega)
  have hwl := words_line a
  generalize lineM a = q at *
  obtain ⟨k, n, ok⟩ := q
  cases ok with
  | false =>
    rw [parse_bad (by rw [hwl]; rfl)] at hQ
    subst hQ
    simp only at hV
    subst hV
    refine bsplit_of_true hnb ?_
    refine .inl ⟨_, _, rfl, ccut, rfl, ?_⟩
    refine .inl ⟨_, _, rfl, cl, rfl, ?_⟩
    repeat' (first | refine bsplit_true ?_ | refine bsplit_false ?_)
    exact ⟨⟨rfl, rfl, ⟨rfl, rfl⟩, ⟨rfl, rfl⟩, ⟨rfl, rfl⟩, ⟨rfl, rfl⟩, trivial⟩, rfl⟩
  | true =>
    have hw : wordsW a = some (k, n) := by rw [hwl]; rfl
    obtain ⟨hk0, hk3, hwo, _, _⟩ := wordsW_some hw
    by_cases hlo : k < last
    · rw [parse_low hw hlo] at hQ
      subst hQ
      simp only at hV
      subst hV
      refine bsplit_of_true hnb ?_
      refine .inl ⟨_, _, rfl, ccut, rfl, ?_⟩
      refine .inl ⟨_, _, rfl, cl, rfl, ?_⟩
      repeat' (first | refine bsplit_true ?_ | refine bsplit_false ?_)
      refine bsplit_of_true (decide_eq_true hlo) ?_
      exact ⟨⟨rfl, rfl, ⟨rfl, rfl⟩, ⟨rfl, rfl⟩, ⟨rfl, rfl⟩, ⟨rfl, rfl⟩, trivial⟩, rfl⟩
    rw [parse_step hw hlo, ← hcr] at hQ
    have hQ2 : parseR (addP p k n) k ((i + 1 : Nat) : Int) (cutL 10 r) = R := by rw [← hQ]; congr 1
    have hp2 := hp.add hwo
    have hB : (decide (k < last)) = false := decide_eq_false hlo
    by_cases hk : k = 0
    · have ha : addP p k n = ⟨p.own ++ [n], p.lns, p.bls, p.pln⟩ := by unfold addP; rw [if_pos hk]
      rw [ha] at hp2 hQ2
      have hsl2 : (p.own ++ [n]).length = p.own.length + 1 := by simp
      refine bsplit_of_true hnb ?_
      refine .inl ⟨_, _, rfl, ccut, rfl, ?_⟩
      refine .inl ⟨_, _, rfl, cl, rfl, ?_⟩
      repeat' (first | refine bsplit_true ?_ | refine bsplit_false ?_)
      refine bsplit_of_false hB ?_
      refine bsplit_of_true (show (k == 0) = true by rw [hk]; rfl) ?_
      refine ask_intro trivial ?_
      refine ask_intro ⟨by show (p.own.length + 1) * 24 ≤ 140737488355328; omega, by show p.own.length + 1 ≤ 9223372036854775807; omega, trivial⟩ ?_
      refine ⟨⟨(⟨p.own ++ [n], p.lns, p.bls, p.pln⟩, r, i + 1, k), by show i + 1 + r.length ≤ 1000; omega, hp2, hQ2⟩, le_of [(10, 10), (11, 11), (12, 24804), (13, 13), (14, 14), (15, 15)] rfl rfl rfl rfl (tellHp_box rfl rfl ⟨rfl, rfl, rfl, rfl, rfl, rfl, trivial⟩ (tellHp_box rfl rfl ⟨rfl, rfl, rfl, rfl, trivial⟩ (tellHp_hole rfl rfl rfl rfl rfl hsl2.symm ⟨?_, fun j hj => ?_⟩ (fun j hj hne => ⟨?_, fun u hu => ?_⟩) (tellHp_row rfl rfl rfl (fun j hj => rfl) (tellHp_row rfl rfl rfl (fun j hj => rfl) (tellHp_row rfl rfl rfl (fun j hj => rfl) tellHp_nil))))))
        (tellFr_v rfl rfl (tellFr_ptr rfl rfl (tellFr_ptr rfl rfl (tellFr_v rfl (congrArg (Value.int .i64) hwi) (tellFr_v rfl rfl trivial))))), by show r.length < s.length; omega⟩
      · show n.length = ((p.own ++ [n]).getD p.own.length []).length
        rw [app_lastP]
      · show intsF n j = intsF ((p.own ++ [n]).getD p.own.length []) j
        rw [app_lastP]
      · have hj : j < p.own.length + 1 := hj
        have hne : j ≠ p.own.length := hne
        show (if j < p.own.length then lenF p.own j else 0) = _
        rw [if_pos (by omega)]
        exact (app_inP p.own n j (by omega)).1
      · have hj : j < p.own.length + 1 := hj
        have hne : j ≠ p.own.length := hne
        show (if j < p.own.length then inF p.own j else fun _ => []) u = _
        rw [if_pos (by omega)]
        exact (app_inP p.own n j (by omega)).2 u
    by_cases hk : k = 1
    · have ha : addP p k n = ⟨p.own, p.lns ++ [(⟨n.getD 0 0, n.getD 1 0, n.getD 2 0, n.getD 3 0, n.getD 4 0⟩ : LaneM)], p.bls, p.pln⟩ := by unfold addP; rw [if_neg (by omega), if_pos hk]
      rw [ha] at hp2 hQ2
      have hn : n.length = 5 := by have hk : k = 1 := (by omega); rw [hk] at hwo; simpa [wantOK] using hwo
      have hsl2 : (p.lns ++ [(⟨n.getD 0 0, n.getD 1 0, n.getD 2 0, n.getD 3 0, n.getD 4 0⟩ : LaneM)]).length = p.lns.length + 1 := by simp
      have hz := app_gen (⟨0, 0, 0, 0, 0⟩ : LaneM) laneD p.lns ⟨n.getD 0 0, n.getD 1 0, n.getD 2 0, n.getD 3 0, n.getD 4 0⟩ (fun i => ([laneD ⟨n.getD 0 0, n.getD 1 0, n.getD 2 0, n.getD 3 0, n.getD 4 0⟩] : List (List D)).getD i []) rfl
      refine bsplit_of_true hnb ?_
      refine .inl ⟨_, _, rfl, ccut, rfl, ?_⟩
      refine .inl ⟨_, _, rfl, cl, rfl, ?_⟩
      repeat' (first | refine bsplit_true ?_ | refine bsplit_false ?_)
      refine bsplit_of_false hB ?_
      refine bsplit_of_false (show (k == 0) = false by rw [beq_eq_false_iff_ne]; omega) ?_
      refine bsplit_of_true (show (k == 1) = true by rw [hk]; rfl) ?_
      refine ask_intro ⟨by decide, by show (0 : Int) < (n.length : Int); omega⟩ ?_
      refine ask_intro (show 0 < n.length by omega) ?_
      refine ask_intro ⟨by decide, by show (1 : Int) < (n.length : Int); omega⟩ ?_
      refine ask_intro (show 1 < n.length by omega) ?_
      refine ask_intro ⟨by decide, by show (2 : Int) < (n.length : Int); omega⟩ ?_
      refine ask_intro (show 2 < n.length by omega) ?_
      refine ask_intro ⟨by decide, by show (3 : Int) < (n.length : Int); omega⟩ ?_
      refine ask_intro (show 3 < n.length by omega) ?_
      refine ask_intro ⟨by decide, by show (4 : Int) < (n.length : Int); omega⟩ ?_
      refine ask_intro (show 4 < n.length by omega) ?_
      refine ask_intro ⟨by show (p.lns.length + 1) * 40 ≤ 140737488355328; omega, by show p.lns.length + 1 ≤ 9223372036854775807; omega, fun j hj => by obtain rfl : j = 0 := (by omega); rfl⟩ ?_
      refine chk_intro (by kernel_rfl) ?_
      exact ⟨⟨(⟨p.own, p.lns ++ [(⟨n.getD 0 0, n.getD 1 0, n.getD 2 0, n.getD 3 0, n.getD 4 0⟩ : LaneM)], p.bls, p.pln⟩, r, i + 1, k), by show i + 1 + r.length ≤ 1000; omega, hp2, hQ2⟩, le_of [(10, 10), (11, 11), (12, 12), (13, 29380), (14, 14), (15, 15)] rfl rfl rfl rfl (tellHp_box rfl rfl ⟨rfl, rfl, rfl, rfl, rfl, rfl, trivial⟩ (tellHp_box rfl rfl ⟨rfl, rfl, rfl, rfl, trivial⟩ (tellHp_nest rfl rfl rfl (fun i hi => ⟨rfl, fun j hj => rfl⟩) (tellHp_row rfl rfl hsl2.symm (fun j hj => hz j hj) (tellHp_row rfl rfl rfl (fun j hj => rfl) (tellHp_row rfl rfl rfl (fun j hj => rfl) tellHp_nil))))))
        (tellFr_v rfl rfl (tellFr_ptr rfl rfl (tellFr_ptr rfl rfl (tellFr_v rfl (congrArg (Value.int .i64) hwi) (tellFr_v rfl rfl trivial))))), by show r.length < s.length; omega⟩
    by_cases hk : k = 2
    · have ha : addP p k n = ⟨p.own, p.lns, p.bls ++ [(⟨n.getD 0 0, n.getD 1 0⟩ : BellM)], p.pln⟩ := by unfold addP; rw [if_neg (by omega), if_neg (by omega), if_pos hk]
      rw [ha] at hp2 hQ2
      have hn : n.length = 2 := by have hk : k = 2 := (by omega); rw [hk] at hwo; simpa [wantOK] using hwo
      have hsl2 : (p.bls ++ [(⟨n.getD 0 0, n.getD 1 0⟩ : BellM)]).length = p.bls.length + 1 := by simp
      have hz := app_gen (⟨0, 0⟩ : BellM) bellD p.bls ⟨n.getD 0 0, n.getD 1 0⟩ (fun i => ([bellD ⟨n.getD 0 0, n.getD 1 0⟩] : List (List D)).getD i []) rfl
      refine bsplit_of_true hnb ?_
      refine .inl ⟨_, _, rfl, ccut, rfl, ?_⟩
      refine .inl ⟨_, _, rfl, cl, rfl, ?_⟩
      repeat' (first | refine bsplit_true ?_ | refine bsplit_false ?_)
      refine bsplit_of_false hB ?_
      refine bsplit_of_false (show (k == 0) = false by rw [beq_eq_false_iff_ne]; omega) ?_
      refine bsplit_of_false (show (k == 1) = false by rw [beq_eq_false_iff_ne]; omega) ?_
      refine bsplit_of_true (show (k == 2) = true by rw [hk]; rfl) ?_
      refine ask_intro ⟨by decide, by show (0 : Int) < (n.length : Int); omega⟩ ?_
      refine ask_intro (show 0 < n.length by omega) ?_
      refine ask_intro ⟨by decide, by show (1 : Int) < (n.length : Int); omega⟩ ?_
      refine ask_intro (show 1 < n.length by omega) ?_
      refine ask_intro ⟨by show (p.bls.length + 1) * 16 ≤ 140737488355328; omega, by show p.bls.length + 1 ≤ 9223372036854775807; omega, fun j hj => by obtain rfl : j = 0 := (by omega); rfl⟩ ?_
      refine chk_intro (by kernel_rfl) ?_
      exact ⟨⟨(⟨p.own, p.lns, p.bls ++ [(⟨n.getD 0 0, n.getD 1 0⟩ : BellM)], p.pln⟩, r, i + 1, k), by show i + 1 + r.length ≤ 1000; omega, hp2, hQ2⟩, le_of [(10, 10), (11, 11), (12, 12), (13, 13), (14, 33188), (15, 15)] rfl rfl rfl rfl (tellHp_box rfl rfl ⟨rfl, rfl, rfl, rfl, rfl, rfl, trivial⟩ (tellHp_box rfl rfl ⟨rfl, rfl, rfl, rfl, trivial⟩ (tellHp_nest rfl rfl rfl (fun i hi => ⟨rfl, fun j hj => rfl⟩) (tellHp_row rfl rfl rfl (fun j hj => rfl) (tellHp_row rfl rfl hsl2.symm (fun j hj => hz j hj) (tellHp_row rfl rfl rfl (fun j hj => rfl) tellHp_nil))))))
        (tellFr_v rfl rfl (tellFr_ptr rfl rfl (tellFr_ptr rfl rfl (tellFr_v rfl (congrArg (Value.int .i64) hwi) (tellFr_v rfl rfl trivial))))), by show r.length < s.length; omega⟩
    have ha : addP p k n = ⟨p.own, p.lns, p.bls, p.pln ++ [(⟨n.getD 0 0, n.getD 1 0⟩ : SlotM)]⟩ := by unfold addP; rw [if_neg (by omega), if_neg (by omega), if_neg (by omega)]
    rw [ha] at hp2 hQ2
    have hn : n.length = 2 := by have hk : k = 3 := (by omega); rw [hk] at hwo; simpa [wantOK] using hwo
    have hsl2 : (p.pln ++ [(⟨n.getD 0 0, n.getD 1 0⟩ : SlotM)]).length = p.pln.length + 1 := by simp
    have hz := app_gen (⟨0, 0⟩ : SlotM) slotD p.pln ⟨n.getD 0 0, n.getD 1 0⟩ (fun i => ([slotD ⟨n.getD 0 0, n.getD 1 0⟩] : List (List D)).getD i []) rfl
    refine bsplit_of_true hnb ?_
    refine .inl ⟨_, _, rfl, ccut, rfl, ?_⟩
    refine .inl ⟨_, _, rfl, cl, rfl, ?_⟩
    repeat' (first | refine bsplit_true ?_ | refine bsplit_false ?_)
    refine bsplit_of_false hB ?_
    refine bsplit_of_false (show (k == 0) = false by rw [beq_eq_false_iff_ne]; omega) ?_
    refine bsplit_of_false (show (k == 1) = false by rw [beq_eq_false_iff_ne]; omega) ?_
    refine bsplit_of_false (show (k == 2) = false by rw [beq_eq_false_iff_ne]; omega) ?_
    refine ask_intro ⟨by decide, by show (0 : Int) < (n.length : Int); omega⟩ ?_
    refine ask_intro (show 0 < n.length by omega) ?_
    refine ask_intro ⟨by decide, by show (1 : Int) < (n.length : Int); omega⟩ ?_
    refine ask_intro (show 1 < n.length by omega) ?_
    refine ask_intro ⟨by show (p.pln.length + 1) * 16 ≤ 140737488355328; omega, by show p.pln.length + 1 ≤ 9223372036854775807; omega, fun j hj => by obtain rfl : j = 0 := (by omega); rfl⟩ ?_
    refine chk_intro (by kernel_rfl) ?_
    exact ⟨⟨(⟨p.own, p.lns, p.bls, p.pln ++ [(⟨n.getD 0 0, n.getD 1 0⟩ : SlotM)]⟩, r, i + 1, k), by show i + 1 + r.length ≤ 1000; omega, hp2, hQ2⟩, le_of [(10, 10), (11, 11), (12, 12), (13, 13), (14, 14), (15, 33188)] rfl rfl rfl rfl (tellHp_box rfl rfl ⟨rfl, rfl, rfl, rfl, rfl, rfl, trivial⟩ (tellHp_box rfl rfl ⟨rfl, rfl, rfl, rfl, trivial⟩ (tellHp_nest rfl rfl rfl (fun i hi => ⟨rfl, fun j hj => rfl⟩) (tellHp_row rfl rfl rfl (fun j hj => rfl) (tellHp_row rfl rfl rfl (fun j hj => rfl) (tellHp_row rfl rfl hsl2.symm (fun j hj => hz j hj) tellHp_nil))))))
      (tellFr_v rfl rfl (tellFr_ptr rfl rfl (tellFr_ptr rfl rfl (tellFr_v rfl (congrArg (Value.int .i64) hwi) (tellFr_v rfl rfl trivial))))), by show r.length < s.length; omega⟩
end Go.Proofs.YtojaakpnpdnbhaaGreatDoor.L

/- What the law functions compute that hold policies: contracts. -/
set_option linter.unusedVariables false
set_option linter.unusedSimpArgs false
set_option maxRecDepth 100000
namespace Go.Proofs.YtojaakpnpdnbhaaGreatDoor.L
open Go.RowKit
abbrev lanesM (l : List LaneM) (k : Int) : D := .l l.length (laneMk k)
theorem c_laws_heldLaneS (l : List LaneM) (k : Int) (hl : l.length ≤ 109951162777) (hk : 0 ≤ k) (hk2 : k ≤ 1099511627776) : FnOK Tryz.prog 54 [.d (lanesM l k), di k] (ri (k + 5 * l.length)) := by
  refine fn_of lv54 Tryz.func54 rfl rfl (by kernel_rfl) rfl ?_
  refine ⟨{ i : Nat // i ≤ l.length }, fun i => ⟨frL [(0, .d (lanesM l k)), (1, di (k + 5 * (i.1 : Int))), (5, di i.1)], hpL [], 0, 0⟩, fun i => l.length - i.1, ⟨0, by omega⟩,
    le_of [] rfl rfl rfl rfl trivial (tellFr_d rfl (DLe.refl _) (tellFr_v rfl (congrArg (Value.int .i64) (show k = k + 5 * ((0 : Nat) : Int) by omega)) (tellFr_v rfl rfl trivial))), ?_⟩
  rintro ⟨i, hi⟩
  refine bsplit_intro (fun h => ?_) (fun h => ?_)
  · have h : i < l.length := by simp at h; exact h
    have w1 : IntKind.i64.wrap (k + 5 * (i : Int) + 1) = k + 5 * (i : Int) + 1 := (wrap_i64 _ (by omega) (by omega)).trans (by omega)
    have w2 : IntKind.i64.wrap (k + 5 * (i : Int) + 1 + 1) = k + 5 * (i : Int) + 2 := (wrap_i64 _ (by omega) (by omega)).trans (by omega)
    have w3 : IntKind.i64.wrap (k + 5 * (i : Int) + 2 + 1) = k + 5 * (i : Int) + 3 := (wrap_i64 _ (by omega) (by omega)).trans (by omega)
    have w4 : IntKind.i64.wrap (k + 5 * (i : Int) + 3 + 1) = k + 5 * (i : Int) + 4 := (wrap_i64 _ (by omega) (by omega)).trans (by omega)
    have wn : IntKind.i64.wrap (IntKind.i64.wrap (IntKind.i64.wrap (IntKind.i64.wrap (IntKind.i64.wrap (k + 5 * (i : Int) + 1) + 1) + 1) + 1) + 1) = k + 5 * ((i + 1 : Nat) : Int) := by rw [w1, w2, w3, w4, wrap_i64 _ (by omega) (by omega)]; omega
    refine ask_intro ⟨by omega, by show (i : Int) < (l.length : Int); omega, rfl⟩ ?_
    refine bsplit_of_false (show (k + 5 * (i : Int) != k + 5 * (i : Int)) = false by simp) ?_
    refine ask_intro ⟨by omega, by show (i : Int) < (l.length : Int); omega, rfl⟩ ?_
    refine bsplit_of_false (show (k + 5 * (i : Int) + 1 != IntKind.i64.wrap (k + 5 * (i : Int) + 1)) = false by rw [w1]; simp) ?_
    refine ask_intro ⟨by omega, by show (i : Int) < (l.length : Int); omega, rfl⟩ ?_
    refine bsplit_of_false (show (k + 5 * (i : Int) + 2 != IntKind.i64.wrap (IntKind.i64.wrap (k + 5 * (i : Int) + 1) + 1)) = false by rw [w1, w2]; simp) ?_
    refine ask_intro ⟨by omega, by show (i : Int) < (l.length : Int); omega, rfl⟩ ?_
    refine bsplit_of_false (show (k + 5 * (i : Int) + 3 != IntKind.i64.wrap (IntKind.i64.wrap (IntKind.i64.wrap (k + 5 * (i : Int) + 1) + 1) + 1)) = false by rw [w1, w2, w3]; simp) ?_
    refine ask_intro ⟨by omega, by show (i : Int) < (l.length : Int); omega, rfl⟩ ?_
    refine bsplit_of_false (show (k + 5 * (i : Int) + 4 != IntKind.i64.wrap (IntKind.i64.wrap (IntKind.i64.wrap (IntKind.i64.wrap (k + 5 * (i : Int) + 1) + 1) + 1) + 1)) = false by rw [w1, w2, w3, w4]; simp) ?_
    exact ⟨⟨i + 1, by omega⟩, le_of [] rfl rfl rfl rfl trivial (tellFr_d rfl (DLe.refl _) (tellFr_v rfl (congrArg (Value.int .i64) wn) (tellFr_v rfl (congrArg (Value.int .i64) (wrap_i64 (i + 1) (by omega) (by omega) : IntKind.i64.wrap ((i : Int) + 1) = ((i + 1 : Nat) : Int))) trivial))), by show l.length - (i + 1) < l.length - i; omega⟩
  · simp at h
    have e : i = l.length := by omega
    subst e
    exact ⟨⟨rfl, trivial⟩, rfl⟩
abbrev bellsM (l : List BellM) (k : Int) : D := .l l.length (bellMk k)
theorem c_laws_heldBellS (l : List BellM) (k : Int) (hl : l.length ≤ 109951162777) (hk : 0 ≤ k) (hk2 : k ≤ 1099511627776) : FnOK Tryz.prog 55 [.d (bellsM l k), di k] (ri (k + 2 * l.length)) := by
  refine fn_of lv55 Tryz.func55 rfl rfl (by kernel_rfl) rfl ?_
  refine ⟨{ i : Nat // i ≤ l.length }, fun i => ⟨frL [(0, .d (bellsM l k)), (1, di (k + 2 * (i.1 : Int))), (5, di i.1)], hpL [], 0, 0⟩, fun i => l.length - i.1, ⟨0, by omega⟩,
    le_of [] rfl rfl rfl rfl trivial (tellFr_d rfl (DLe.refl _) (tellFr_v rfl (congrArg (Value.int .i64) (show k = k + 2 * ((0 : Nat) : Int) by omega)) (tellFr_v rfl rfl trivial))), ?_⟩
  rintro ⟨i, hi⟩
  refine bsplit_intro (fun h => ?_) (fun h => ?_)
  · have h : i < l.length := by simp at h; exact h
    have w1 : IntKind.i64.wrap (k + 2 * (i : Int) + 1) = k + 2 * (i : Int) + 1 := (wrap_i64 _ (by omega) (by omega)).trans (by omega)
    have wn : IntKind.i64.wrap (IntKind.i64.wrap (k + 2 * (i : Int) + 1) + 1) = k + 2 * ((i + 1 : Nat) : Int) := by rw [w1, wrap_i64 _ (by omega) (by omega)]; omega
    refine ask_intro ⟨by omega, by show (i : Int) < (l.length : Int); omega, rfl⟩ ?_
    refine bsplit_of_false (show (k + 2 * (i : Int) != k + 2 * (i : Int)) = false by simp) ?_
    refine ask_intro ⟨by omega, by show (i : Int) < (l.length : Int); omega, rfl⟩ ?_
    refine bsplit_of_false (show (k + 2 * (i : Int) + 1 != IntKind.i64.wrap (k + 2 * (i : Int) + 1)) = false by rw [w1]; simp) ?_
    exact ⟨⟨i + 1, by omega⟩, le_of [] rfl rfl rfl rfl trivial (tellFr_d rfl (DLe.refl _) (tellFr_v rfl (congrArg (Value.int .i64) wn) (tellFr_v rfl (congrArg (Value.int .i64) (wrap_i64 (i + 1) (by omega) (by omega) : IntKind.i64.wrap ((i : Int) + 1) = ((i + 1 : Nat) : Int))) trivial))), by show l.length - (i + 1) < l.length - i; omega⟩
  · simp at h
    have e : i = l.length := by omega
    subst e
    exact ⟨⟨rfl, trivial⟩, rfl⟩
abbrev slotsM (l : List SlotM) (k : Int) : D := .l l.length (slotMk k)
theorem c_laws_heldSlotS (l : List SlotM) (k : Int) (hl : l.length ≤ 109951162777) (hk : 0 ≤ k) (hk2 : k ≤ 1099511627776) : FnOK Tryz.prog 56 [.d (slotsM l k), di k] (ri (k + 2 * l.length)) := by
  refine fn_of lv56 Tryz.func56 rfl rfl (by kernel_rfl) rfl ?_
  refine ⟨{ i : Nat // i ≤ l.length }, fun i => ⟨frL [(0, .d (slotsM l k)), (1, di (k + 2 * (i.1 : Int))), (5, di i.1)], hpL [], 0, 0⟩, fun i => l.length - i.1, ⟨0, by omega⟩,
    le_of [] rfl rfl rfl rfl trivial (tellFr_d rfl (DLe.refl _) (tellFr_v rfl (congrArg (Value.int .i64) (show k = k + 2 * ((0 : Nat) : Int) by omega)) (tellFr_v rfl rfl trivial))), ?_⟩
  rintro ⟨i, hi⟩
  refine bsplit_intro (fun h => ?_) (fun h => ?_)
  · have h : i < l.length := by simp at h; exact h
    have w1 : IntKind.i64.wrap (k + 2 * (i : Int) + 1) = k + 2 * (i : Int) + 1 := (wrap_i64 _ (by omega) (by omega)).trans (by omega)
    have wn : IntKind.i64.wrap (IntKind.i64.wrap (k + 2 * (i : Int) + 1) + 1) = k + 2 * ((i + 1 : Nat) : Int) := by rw [w1, wrap_i64 _ (by omega) (by omega)]; omega
    refine ask_intro ⟨by omega, by show (i : Int) < (l.length : Int); omega, rfl⟩ ?_
    refine bsplit_of_false (show (k + 2 * (i : Int) != k + 2 * (i : Int)) = false by simp) ?_
    refine ask_intro ⟨by omega, by show (i : Int) < (l.length : Int); omega, rfl⟩ ?_
    refine bsplit_of_false (show (k + 2 * (i : Int) + 1 != IntKind.i64.wrap (k + 2 * (i : Int) + 1)) = false by rw [w1]; simp) ?_
    exact ⟨⟨i + 1, by omega⟩, le_of [] rfl rfl rfl rfl trivial (tellFr_d rfl (DLe.refl _) (tellFr_v rfl (congrArg (Value.int .i64) wn) (tellFr_v rfl (congrArg (Value.int .i64) (wrap_i64 (i + 1) (by omega) (by omega) : IntKind.i64.wrap ((i : Int) + 1) = ((i + 1 : Nat) : Int))) trivial))), by show l.length - (i + 1) < l.length - i; omega⟩
  · simp at h
    have e : i = l.length := by omega
    subst e
    exact ⟨⟨rfl, trivial⟩, rfl⟩
abbrev ownsM (l : List (List Int)) (k : Int) : D := .l l.length (fun i => [.l (lenF l i) (nestMk l k i)])
theorem c_laws_heldInt64SS (l : List (List Int)) (k : Int) (hl : l.length ≤ 1048576) (hs : sumN l ≤ 1048576) (hk : 0 ≤ k) (hk2 : k ≤ 1073741824) : FnOK Tryz.prog 53 [.d (ownsM l k), di k] (ri (k + (sumN l : Nat))) := by
  refine fn_of lv53 Tryz.func53 rfl rfl (by kernel_rfl) rfl ?_
  refine ⟨{ i : Nat // i ≤ l.length }, fun i => ⟨frL [(0, .d (ownsM l k)), (1, di (offK l k i.1)), (5, di i.1)], hpL [], 0, 0⟩, fun i => l.length - i.1, ⟨0, by omega⟩,
    le_of [] rfl rfl rfl rfl trivial (tellFr_d rfl (DLe.refl _) (tellFr_v rfl (congrArg (Value.int .i64) (show k = offK l k 0 by simp [offK, sumN])) (tellFr_v rfl rfl trivial))), ?_⟩
  rintro ⟨i, hi⟩
  by_cases h : i < l.length
  · have e1 := sumN_take l i h
    have e2 := sumN_le l i
    have e3 := sumN_get l i h
    have c1 := c_laws_heldInt64S (offK l k i) (l.getD i []).length (by omega) (by show 0 ≤ k + (sumN (l.take i) : Nat); omega) (by show k + (sumN (l.take i) : Nat) ≤ _; omega)
    have hnn : ¬ offK l k i + ((l.getD i []).length : Int) < 0 := by show ¬ k + (sumN (l.take i) : Nat) + ((l.getD i []).length : Int) < 0; omega
    refine bsplit_of_true (decide_eq_true (show (i : Int) < (l.length : Int) by omega)) ?_
    refine ask_intro ⟨by omega, by show (i : Int) < (l.length : Int); omega, rfl⟩ ?_
    refine .inl ⟨_, _, rfl, c1, rfl, ?_⟩
    refine bsplit_of_false (decide_eq_false hnn) ?_
    exact ⟨⟨i + 1, by omega⟩, le_of [] rfl rfl rfl rfl trivial (tellFr_d rfl (DLe.refl _) (tellFr_v rfl (congrArg (Value.int .i64) (show offK l k i + ((l.getD i []).length : Int) = offK l k (i + 1) by show k + (sumN (l.take i) : Nat) + ((l.getD i []).length : Int) = k + (sumN (l.take (i + 1)) : Nat); omega)) (tellFr_v rfl (congrArg (Value.int .i64) (wrap_i64 (i + 1) (by omega) (by omega) : IntKind.i64.wrap ((i : Int) + 1) = ((i + 1 : Nat) : Int))) trivial))), by show l.length - (i + 1) < l.length - i; omega⟩
  · obtain rfl : i = l.length := by omega
    refine bsplit_of_false (decide_eq_false (show ¬ (l.length : Int) < (l.length : Int) by omega)) ?_
    refine ⟨⟨congrArg (Value.int .i64) ?_, trivial⟩, rfl⟩
    show k + (sumN (l.take l.length) : Nat) = _
    rw [List.take_length]
abbrev polMD (x : PolM) (k : Int) : LV := .agg [.d (ownsM x.own k), .d (lanesM x.lns (polK1 x k)), .d (bellsM x.bls (polK2 x k)), .d (slotsM x.pln (polK3 x k))]
theorem c_laws_heldPolicy (x : PolM) (k : Int) (hf : (x.size : Int) ≤ 1048576) (hk : 0 ≤ k) (hk2 : k ≤ 1073741824) : FnOK Tryz.prog 24 [polMD x k, di k] (ri (polK x k)) := by
  have e : x.size = x.own.length + sumN x.own + x.lns.length + x.bls.length + x.pln.length := rfl
  have b1 : 0 ≤ polK1 x k ∧ polK1 x k ≤ 1074790400 := by show 0 ≤ k + (sumN x.own : Nat) ∧ k + (sumN x.own : Nat) ≤ _; omega
  have b2 : 0 ≤ polK2 x k ∧ polK2 x k ≤ 1080033280 := by show 0 ≤ k + (sumN x.own : Nat) + 5 * (x.lns.length : Int) ∧ k + (sumN x.own : Nat) + 5 * (x.lns.length : Int) ≤ _; omega
  have b3 : 0 ≤ polK3 x k ∧ polK3 x k ≤ 1082130432 := by show 0 ≤ k + (sumN x.own : Nat) + 5 * (x.lns.length : Int) + 2 * (x.bls.length : Int) ∧ k + (sumN x.own : Nat) + 5 * (x.lns.length : Int) + 2 * (x.bls.length : Int) ≤ _; omega
  have b4 := polK_b x k hf hk hk2
  have c1 := c_laws_heldInt64SS x.own k (by omega) (by omega) hk hk2
  have c2 := c_laws_heldLaneS x.lns (polK1 x k) (by omega) b1.1 (by omega)
  have c3 := c_laws_heldBellS x.bls (polK2 x k) (by omega) b2.1 (by omega)
  have c4 := c_laws_heldSlotS x.pln (polK3 x k) (by omega) b3.1 (by omega)
  have n1 : ¬ k + (sumN x.own : Nat) < 0 := by omega
  have n2 : ¬ polK1 x k + 5 * (x.lns.length : Int) < 0 := by omega
  have n3 : ¬ polK2 x k + 2 * (x.bls.length : Int) < 0 := by omega
  have n4 : ¬ polK3 x k + 2 * (x.pln.length : Int) < 0 := by omega
  refine fn_of lv24 Tryz.func24 rfl rfl (by kernel_rfl) rfl ?_
  refine .inl ⟨_, _, rfl, c1, rfl, ?_⟩
  refine bsplit_of_false (decide_eq_false n1) ?_
  refine .inl ⟨_, _, rfl, c2, rfl, ?_⟩
  refine bsplit_of_false (decide_eq_false n2) ?_
  refine .inl ⟨_, _, rfl, c3, rfl, ?_⟩
  refine bsplit_of_false (decide_eq_false n3) ?_
  refine .inl ⟨_, _, rfl, c4, rfl, ?_⟩
  refine bsplit_of_false (decide_eq_false n4) ?_
  exact ⟨⟨rfl, trivial⟩, rfl⟩
end Go.Proofs.YtojaakpnpdnbhaaGreatDoor.L

/- The law function over policies that are read answers true. -/
set_option linter.unusedVariables false
set_option linter.unusedSimpArgs false
set_option maxRecDepth 100000
namespace Go.Proofs.YtojaakpnpdnbhaaGreatDoor.L
open Go.RowKit
theorem parseR_read : ∀ (L : List (List UInt8)) (p : PolM) (last j : Int) (i : Nat), PolRead p i → ∃ i', i' ≤ i + L.length ∧ PolRead (parseR p last j L).1 i'
  | [], p, last, j, i, h => ⟨i, by omega, h⟩
  | [x], p, last, j, i, h => by
    unfold parseR
    split
    · exact ⟨i, by omega, h⟩
    · exact ⟨0, by omega, PolRead.none⟩
  | x :: y :: r, p, last, j, i, h => by
    cases hw : wordsW x with
    | none => rw [parse_bad hw]; exact ⟨0, by omega, PolRead.none⟩
    | some kn =>
      obtain ⟨k, n⟩ := kn
      by_cases hk : k < last
      · rw [parse_low hw hk]; exact ⟨0, by omega, PolRead.none⟩
      · rw [parse_step hw hk]
        obtain ⟨i', h1, h2⟩ := parseR_read (y :: r) (addP p k n) k (j + 1) (i + 1) (h.add (wordsW_some hw).2.2.1)
        exact ⟨i', by simp only [List.length_cons] at h1 ⊢; omega, h2⟩
theorem sumN_9 : ∀ (l : List (List Int)), (∀ j, j < l.length → (l.getD j []).length ≤ 9) → sumN l ≤ 9 * l.length
  | [], _ => Nat.le_refl _
  | a :: l, h => by
    have h0 := h 0 (by simp)
    have ih := sumN_9 l (fun j hj => h (j + 1) (by simp; omega))
    have e : sumN (a :: l) = a.length + sumN l := by unfold sumN; simp
    have h0 : a.length ≤ 9 := h0
    rw [e, List.length_cons]
    omega
theorem parsePol_read (t : List UInt8) : ∃ i, i ≤ 1001 ∧ PolRead (parsePol polFault t).2.2 i := by
  unfold parsePol
  split
  · exact ⟨0, by omega, PolRead.none⟩
  rename_i h
  obtain ⟨i, h1, h2⟩ := parseR_read (cutL 10 t) noPol 0 0 0 PolRead.none
  have h3 := (cutL_len 10 t).2
  generalize parseR noPol 0 0 (cutL 10 t) = R at *
  obtain ⟨p, j, b⟩ := R
  cases b with
  | false => exact ⟨0, by omega, PolRead.none⟩
  | true =>
    by_cases hf : polFault p = 0
    · simp only
      rw [if_pos hf]
      exact ⟨i, by omega, h2⟩
    · simp only
      rw [if_neg hf]
      exact ⟨0, by omega, PolRead.none⟩
theorem parsePol_few (t : List UInt8) : ((parsePol polFault t).2.2.size : Int) ≤ 1048576 ∧ (parsePol polFault t).2.2.small := by
  obtain ⟨i, h1, h2⟩ := parsePol_read t
  generalize (parsePol polFault t).2.2 = p at *
  refine ⟨?_, h2.small (by omega)⟩
  have h3 := h2.tot
  have h4 := sumN_9 p.own h2.row
  have e : p.size = p.own.length + sumN p.own + p.lns.length + p.bls.length + p.pln.length := rfl
  omega
abbrev prLV (q : Int × Int × PolM) : LV := .agg [di q.1, di q.2.1, .d (owns q.2.2.own), .d (lanes q.2.2.lns), .d (bells q.2.2.bls), .d (slots q.2.2.pln)]
theorem c_laws_eqPolicyResult (q : Int × Int × PolM) (hs : q.2.2.small) : FnOK Tryz.prog 7 [prLV q, prLV q] (rb true) := by
  have c1 := c_laws_eqPolicy q.2.2 q.2.2 hs
  rw [decide_eq_true rfl] at c1
  refine fn_of lv7 Tryz.func7 rfl rfl (by kernel_rfl) rfl ?_
  refine bsplit_of_false (show (q.1 != q.1) = false by simp) ?_
  refine bsplit_of_false (show (q.2.1 != q.2.1) = false by simp) ?_
  refine .inl ⟨_, _, rfl, c1, rfl, ?_⟩
  repeat' (first | refine bsplit_true ?_ | refine bsplit_false ?_)
  exact ⟨⟨rfl, trivial⟩, rfl⟩
theorem c_laws_markPolicyResult (q : Int × Int × PolM) (k : Int) (hf : (q.2.2.size : Int) ≤ 1048576) (hk : 0 ≤ k) (hk2 : k ≤ 1073741824) :
    MutOK Tryz.prog 8 [.agg [di q.1, di q.2.1, .row 0, .row 1, .row 2, .row 3], di k] 4 (polRows q.2.2) (di (polK q.2.2 k)) 4 (polMarks q.2.2 k) := by
  refine mut_fn_of lv8 Tryz.func8 rfl rfl (by kernel_rfl) rfl [] ?_
  refine .inr ⟨rfl, use_mut ⟨_, _, _, _, _, _, rfl, rfl, c_laws_markPolicy q.2.2 k hf hk hk2, rfl, ?_⟩⟩
  exact chk_intro (by kernel_rfl) ⟨tellV_v rfl rfl, tellHp_nest rfl rfl rfl (fun j hj => ⟨rfl, fun q hq => rfl⟩) (tellHp_row rfl rfl rfl (fun j hj => rfl) (tellHp_row rfl rfl rfl (fun j hj => rfl) (tellHp_row rfl rfl rfl (fun j hj => rfl) tellHp_nil)))⟩
theorem c_laws_heldPolicyResult (q : Int × Int × PolM) (k : Int) (hf : (q.2.2.size : Int) ≤ 1048576) (hk : 0 ≤ k) (hk2 : k ≤ 1073741824) :
    FnOK Tryz.prog 9 [.agg [di q.1, di q.2.1, .d (ownsM q.2.2.own k), .d (lanesM q.2.2.lns (polK1 q.2.2 k)), .d (bellsM q.2.2.bls (polK2 q.2.2 k)), .d (slotsM q.2.2.pln (polK3 q.2.2 k))], di k] (ri (polK q.2.2 k)) := by
  have hb := polK_b q.2.2 k hf hk hk2
  have hn : ¬ polK q.2.2 k < 0 := by omega
  refine fn_of lv9 Tryz.func9 rfl rfl (by kernel_rfl) rfl ?_
  refine .inl ⟨_, _, rfl, c_laws_heldPolicy q.2.2 k hf hk hk2, rfl, ?_⟩
  refine bsplit_of_false (decide_eq_false hn) ?_
  exact ⟨⟨rfl, trivial⟩, rfl⟩
set_option maxHeartbeats 1600000 in
theorem c_laws_FnExactParsePolicy (t : List UInt8) : FnOK Tryz.prog 3 [dT t] (rb true) := by
  have hsz := tx_size t
  by_cases ht : 1048576 < t.length
  · refine fn_of lv3 Tryz.func3 rfl rfl (by kernel_rfl) rfl ?_
    refine bsplit_of_true (decide_eq_true (show ((tx t).size : Int) > 1048576 by omega)) ?_
    exact ⟨⟨rfl, trivial⟩, rfl⟩
  have cs := c_spec_ParsePolicy t (by omega)
  have ci := c_impl_ParsePolicy t (by omega)
  obtain ⟨hf, hsm⟩ := parsePol_few t
  generalize parsePol polFault t = p at *
  have hb := polK_b p.2.2 1 hf (by omega) (by omega)
  have hn : ¬ polK p.2.2 1 < 0 := by omega
  have hne : (polK p.2.2 1 != polK p.2.2 1) = false := by simp
  refine fn_of lv3 Tryz.func3 rfl rfl (by kernel_rfl) rfl ?_
  refine bsplit_of_false (decide_eq_false (show ¬ ((tx t).size : Int) > 1048576 by omega)) ?_
  refine .inl ⟨_, _, rfl, cs, rfl, ?_⟩
  refine .inl ⟨_, _, rfl, ci, rfl, ?_⟩
  refine .inl ⟨_, _, rfl, c_laws_eqPolicyResult p hsm, rfl, ?_⟩
  repeat' (first | refine bsplit_true ?_ | refine bsplit_false ?_)
  refine .inr ⟨rfl, use_mut ⟨_, _, _, _, _, _, rfl, rfl, c_laws_markPolicyResult p 1 hf (by omega) (by omega), rfl, ?_⟩⟩
  refine .inl ⟨_, _, rfl, c_laws_heldPolicyResult p 1 hf (by omega) (by omega), rfl, ?_⟩
  refine bsplit_of_false (decide_eq_false hn) ?_
  refine bsplit_of_false (hne) ?_
  refine .inl ⟨_, _, rfl, ci, rfl, ?_⟩
  refine .inl ⟨_, _, rfl, c_laws_eqPolicyResult p hsm, rfl, ?_⟩
  repeat' (first | refine bsplit_true ?_ | refine bsplit_false ?_)
  refine .inl ⟨_, _, rfl, c_laws_heldPolicyResult p 1 hf (by omega) (by omega), rfl, ?_⟩
  refine bsplit_of_false (decide_eq_false hn) ?_
  refine bsplit_of_false (hne) ?_
  exact ⟨⟨rfl, trivial⟩, rfl⟩
theorem c_law_ParsePolicy (t : List UInt8) (ho : True) : FnOK Tryz.prog 3 [dT t] (rb true) := c_laws_FnExactParsePolicy t
end Go.Proofs.YtojaakpnpdnbhaaGreatDoor.L

/- The row's step where the row lists variables and the world's shape is asked too; texts as arguments. -/
set_option linter.unusedVariables false
namespace Go.Proofs.YtojaakpnpdnbhaaGreatDoor.L
open Go.RowKit
section
variable {H : Type} {enc : TypeId × Value → H}
theorem returnsInHanded_and_shaped {a : Assume} {C : Checked} {os : Os} {f : FuncId} {fn : Func} {s : ChangeSpec} {conds : List PathCond} {apart fresh handsOn again : Bool} {X : World → Array Value → Prop}
    (hX : ∀ (w w' : World) (args : Array Value), w.heap = w'.heap → X w args → X w' args)
    (own : ownKnob C.prog.godebug = none) (started : os.Started) (noInit : C.prog.inits.idxOf? f = none) (hfn : C.prog.funcs[f]? = some fn)
    (witness : ∃ (w : World) (tape : Tape) (i : Input), w.os = os ∧ (w.forCall tape i).Shaped C.prog ∧ i.vars = [] ∧ Input.okWide C.prog (w.forCall tape i) .any w.heap.size f i ∧
      ((s.pre enc C.prog fn conds apart (w.forCall tape i).memory i.args ∧ X (w.forCall tape i).memory i.args) ∧ sizedMet enc C.prog fn (OpenSpec.ofChange s) apart (w.forCall tape i).memory i.args) ∧ a.holds C.prog (lone (Frame.enter C.prog f i.args .normal) [] (w.forCall tape i)))
    (contract : ∀ (W : World) (base : Nat) (args : Array Value) (ds gs : List (DataW H)) (before : List MemPlace),
      (∀ (j : Nat) t v, fn.params[j]? = some t → args[j]? = some v → Value.okWide C.prog W .any base t v) →
      DataW.Whole enc C.prog fn.params.toList s.vars apart W args.toList ds gs before →
      conds.all (PathCond.test C.prog ⟨fn.params.toList, ds, s.plain.varTypes C.prog, gs⟩) = true →
      (DataW.weightsEach C.prog (fn.params.toList ++ s.plain.varTypes C.prog) (ds ++ gs)).all (· ≤ reachBytes) = true → X W args → W.ShapedOpen C.prog →
      a.holds C.prog (lone (Frame.enter C.prog f args .normal) [] W) →
      Calls C.prog f args W fun e W' => ∃ v, e = .returned v ∧ s.post enc C.prog fn apart fresh handsOn again W args v W') :
    ReturnsInHanded a C os f .any (fun w args => (s.pre enc C.prog fn conds apart w args ∧ X w args) ∧ sizedMet enc C.prog fn (OpenSpec.ofChange s) apart w args) (s.post enc C.prog fn apart fresh handsOn again) := by
  refine returnsInHanded_of_calls own started noInit witness ?_
  intro w tape i _ hsh _ hok hpre hholds
  obtain ⟨_, _, _, fn', hfn', _, _, _, _, hval⟩ := hok
  have e : fn' = fn := Option.some.inj (hfn'.symm.trans hfn)
  subst e
  obtain ⟨⟨⟨ds, gs, before, hw, hc⟩, hx⟩, hz⟩ := hpre
  have hw' := DataW.Whole.of_heap (w' := w.forCall tape i) (by rfl) hw
  refine (contract (w.forCall tape i) w.heap.size i.args ds gs before hval hw' hc (hz.weights hw) (hX _ _ _ (by rfl) hx) hsh hholds).mono fun e W' ⟨v, he, hp⟩ => ?_
  subst he
  exact ChangeSpec.post_blind hp
end
theorem reads_text : ReadsT Tryz.prog 9 1 (List UInt8) (fun l => [.v (.string (tx l))]) (fun _ => True) :=
  (ReadsT.string Tryz.underlying9 (by kernel_rfl)).map (fun b => b.data.toList) (fun b _ => ⟨trivial, by
    have e : tx b.data.toList = b := by apply ByteArray.ext; simp [tx]
    rw [e]⟩)
end Go.Proofs.YtojaakpnpdnbhaaGreatDoor.L

/- The law FnExactParsePolicy answers true at every input that its statement lets in. -/
set_option linter.unusedVariables false
set_option maxRecDepth 100000
namespace Go.Proofs.YtojaakpnpdnbhaaGreatDoor.L.FnExactParsePolicy
open Go.RowKit Go.ChangeShapes Go.WideShapes Go.ChangeAt
theorem laidWorld_met (os : Os) (args : Array Value) : laidMetH Tryz.prog Rows.fnExactParsePolicyRow.laid ((World.laidAll Tryz.prog os Rows.fnExactParsePolicyRow.laid).forCall (fun _ _ => 0) ⟨#[], args, []⟩).memory := by
  rw [MakeChecks.laidMetH_plain _ _ _ (by kernel_rfl)]
  exact laidMet_laidAll _ (by kernel_rfl) (by kernel_rfl)
theorem star_err : "*" ++ "errors.errorString" = "*errors.errorString" := by decide
theorem row_err (u : TypeId) (h : Tryz.prog.typeName? 3 u = some "*errors.errorString") : u = 161 :=
  typeName_ptr_named (nm := "errors.errorString") (by rw [star_err]; kernel_rfl) (by kernel_rfl) (by decide) u (by rw [star_err]; exact h)
theorem gl_of_laid {W : World} (h : laidMetH Tryz.prog Rows.fnExactParsePolicyRow.laid W) (hsh : W.ShapedOpen Tryz.prog) : GlOK (Mem W) W := by
  rw [MakeChecks.laidMetH_plain _ _ _ (by kernel_rfl)] at h
  have h' : laidMet Tryz.prog Rows.fnExactParsePolicyRow.laid W := h
  obtain ⟨ps, hv, _⟩ := h'
  refine ⟨fun g k zs hg => ?_, fun g b hg => ?_⟩
  · rcases List.mem_cons.1 hg with e | hg
    · cases e
      have t := tab_of_laid (P := Tryz.prog) (W := W) (name := "internal/strconv.uint64pow10") (k := .u64) (zs := [1, 10, 100, 1000, 10000, 100000, 1000000, 10000000, 100000000, 1000000000, 10000000000, 100000000000, 1000000000000, 10000000000000, 100000000000000, 1000000000000000, 10000000000000000, 100000000000000000, 1000000000000000000, 10000000000000000000]) (g := 3) (t := 165) (e := 146) (n := 20) (by kernel_rfl) (by kernel_rfl) (by kernel_rfl) (by kernel_rfl) (by kernel_rfl) (by kernel_rfl) hv (List.Mem.tail _ (List.Mem.tail _ (List.Mem.head _)))
      exact gl_tab t (by kernel_rfl) (by simp)
    rcases List.mem_cons.1 hg with e | hg
    · cases e
      have t := tab_of_laid (P := Tryz.prog) (W := W) (name := "math/bits.deBruijn32tab") (k := .u8) (zs := [0, 1, 28, 2, 29, 14, 24, 3, 30, 22, 20, 15, 25, 17, 4, 8, 31, 27, 13, 23, 21, 19, 16, 7, 26, 12, 18, 6, 11, 5, 10, 9]) (g := 6) (t := 177) (e := 5) (n := 32) (by kernel_rfl) (by kernel_rfl) (by kernel_rfl) (by kernel_rfl) (by kernel_rfl) (by kernel_rfl) hv (List.Mem.head _)
      exact gl_tab t (by kernel_rfl) (by simp)
    rcases List.mem_cons.1 hg with e | hg
    · cases e
      have t := tab_of_laid (P := Tryz.prog) (W := W) (name := "math/bits.deBruijn64tab") (k := .u8) (zs := [0, 1, 56, 2, 57, 49, 28, 3, 61, 58, 42, 50, 38, 29, 17, 4, 62, 47, 59, 36, 45, 43, 51, 22, 53, 39, 33, 30, 24, 18, 12, 5, 63, 55, 48, 27, 60, 41, 37, 16, 46, 35, 44, 21, 52, 32, 23, 11, 54, 26, 40, 15, 34, 20, 31, 10, 25, 14, 19, 9, 13, 8, 7, 6]) (g := 7) (t := 178) (e := 5) (n := 64) (by kernel_rfl) (by kernel_rfl) (by kernel_rfl) (by kernel_rfl) (by kernel_rfl) (by kernel_rfl) hv (List.Mem.tail _ (List.Mem.head _))
      exact gl_tab t (by kernel_rfl) (by simp)
    cases hg
  · rcases List.mem_cons.1 hg with e | hg
    · cases e
      obtain ⟨m, hm⟩ := cell_of_shapedOpen_int (g := 0) (t := 3) (zero := #[.int .i64 0]) (k := .i64) hsh (by decide +kernel) (by kernel_rfl) rfl (by kernel_rfl) (by kernel_rfl) Tryz.underlying3
      exact ⟨cell_lt hm, _, hm, _, rfl⟩
    rcases List.mem_cons.1 hg with e | hg
    · cases e
      obtain ⟨a, s, hvar, _, _, _⟩ := laid_sentinel (P := Tryz.prog) (n := "strconv.ErrSyntax") (nm := "*errors.errorString") (text := [105, 110, 118, 97, 108, 105, 100, 32, 115, 121, 110, 116, 97, 120]) h.tail.tail.tail.tail.tail (show Tryz.prog.globalNamed "strconv.ErrSyntax" = some 1 by kernel_rfl) (show (Tryz.prog.globals[1]?).map (·.type) = some 74 by kernel_rfl) (show IfT Tryz.prog 74 from ift_err) row_err Tryz.underlying161 Tryz.underlying163 rfl rfl Tryz.underlying9 (by kernel_rfl) (by kernel_rfl)
      have hc : W.cell? ⟨1, 0, none⟩ = some (.iface 161 (.pointer (some a))) := by have h0 := World.var?_cell (show Tryz.prog.globalNamed "strconv.ErrSyntax" = some 1 by kernel_rfl) hvar 0; simpa using h0
      exact ⟨cell_lt hc, _, hc, _, _, rfl⟩
    rcases List.mem_cons.1 hg with e | hg
    · cases e
      obtain ⟨a, s, hvar, _, _, _⟩ := laid_sentinel (P := Tryz.prog) (n := "strconv.ErrRange") (nm := "*errors.errorString") (text := [118, 97, 108, 117, 101, 32, 111, 117, 116, 32, 111, 102, 32, 114, 97, 110, 103, 101]) h.tail.tail.tail.tail (show Tryz.prog.globalNamed "strconv.ErrRange" = some 2 by kernel_rfl) (show (Tryz.prog.globals[2]?).map (·.type) = some 74 by kernel_rfl) (show IfT Tryz.prog 74 from ift_err) row_err Tryz.underlying161 Tryz.underlying163 rfl rfl Tryz.underlying9 (by kernel_rfl) (by kernel_rfl)
      have hc : W.cell? ⟨2, 0, none⟩ = some (.iface 161 (.pointer (some a))) := by have h0 := World.var?_cell (show Tryz.prog.globalNamed "strconv.ErrRange" = some 2 by kernel_rfl) hvar 0; simpa using h0
      exact ⟨cell_lt hc, _, hc, _, _, rfl⟩
    cases hg
theorem lifted (os : Os) (started : os.Started) (H : Type) (enc : TypeId × Value → H) :
    ReturnsInHanded {} Tryz.checked os 3 .any (fun w args => (Rows.fnExactParsePolicySpec.pre enc Tryz.prog Tryz.f3 Rows.fnExactParsePolicyRow.domain false w args ∧ laidMetH Tryz.prog Rows.fnExactParsePolicyRow.laid w) ∧ sizedMet enc Tryz.prog Tryz.f3 (OpenSpec.ofChange Rows.fnExactParsePolicySpec) false w args) (Rows.fnExactParsePolicySpec.post enc Tryz.prog Tryz.f3 false true false false) := by
  refine returnsInHanded_and_shaped (C := Tryz.checked) (X := fun w _ => laidMetH Tryz.prog Rows.fnExactParsePolicyRow.laid w) (fun _ _ _ hh h => h.of_heap hh) own started (by kernel_rfl) Tryz.func3
    (ChangeSpec.witness_shaped (enc := enc) (C := Tryz.checked) (os := os) (X := fun w _ => laidMetH Tryz.prog Rows.fnExactParsePolicyRow.laid w) false (World.laidAll Tryz.prog os Rows.fnExactParsePolicyRow.laid) #[.string ⟨#[]⟩] 8 (World.laidAll_os _ _ _)
      (World.shaped_of_ZipB (by kernel_rfl) (by kernel_rfl)) (by kernel_rfl) (by kernel_rfl) (by kernel_rfl) (laidWorld_met os _)) ?_
  intro W base args ds gs before hval0 hW hcnd hsz0 hL hsh _
  have hsz : (DataW.weightsEach Tryz.prog (Tryz.f3.params.toList ++ Rows.fnExactParsePolicySpec.plain.varTypes Tryz.prog) (ds ++ gs)).all (· ≤ reachBytes) = true := hsz0
  have hval : ∀ (j : Nat) t v, Tryz.f3.params[j]? = some t → args[j]? = some v → Value.okWide Tryz.prog W .any base t v := hval0
  have hW' := hW
  obtain ⟨p, q, hA0, hV, rfl, hfz, hnd⟩ := hW
  have hA : DataW.TrodAll enc Tryz.prog W 0 (fun _ => true) true Tryz.f3.params.toList args.toList ds p := hA0
  rw [Tryz.params3] at hA hval hsz
  obtain ⟨v0, vs0, d0, ds0, p0, q0, hargs, rfl, rfl, h0, r0⟩ := trodAll_cons hA
  obtain ⟨rfl, rfl, rfl⟩ := trodAll_nil r0
  obtain rfl : args = #[v0] := by cases args; simp_all
  obtain ⟨rfl, rfl⟩ := trodVars_none hV
  have hsm : ∀ k ∈ DataW.weightsEach Tryz.prog ([9] ++ Rows.fnExactParsePolicySpec.plain.varTypes Tryz.prog) ([d0] ++ []), k ≤ reachBytes := fun k hk => by simpa using List.all_eq_true.1 hsz k hk
  have k0 := h0
  have lt0 : ∀ x ∈ p0, x.block < W.heap.size := by obtain ⟨m, hm⟩ := k0; exact DataW.trod_lt m _ _ _ hm
  have c0 : v0.cells = #[v0] := by have z := okWide_string Tryz.underlying9 (hval 0 9 v0 rfl rfl); (first | (obtain ⟨_, rfl⟩ := z; rfl) | (obtain ⟨_, _, _, rfl⟩ := z; rfl))
  obtain ⟨m0, hm0, hvr0⟩ := reads_text.one c0 h0 (fun k hk => hsm k (DataW.weights_mem_each (j := 0) rfl rfl k hk))
  refine ((c_law_ParsePolicy m0 hm0).calls W (Mem W) [v0] ⟨fun b hb => hb, gl_of_laid hL hsh⟩ rfl (fun j hj => ?_)).mono fun e W' ⟨v, he, bel, hrr⟩ => ?_
  · match j, hj with
    | 0, _ => exact hvr0
    | j + 1, hj => exact absurd hj (by simp)
  · obtain ⟨us, J, hl, rfl, hJ, hok, _, _⟩ := hrr.ex
    have h1 := hok 0 _ rfl
    have h2 : RV.val us (rb true) = .bool true := h1
    rw [h2] at he
    subst he
    exact ⟨_, rfl, _, _, _, [], _, [], hW', trodAll_mk1 (shut_bool Tryz.underlying4 _), (trodAll_cons_mk (Below.trod laidOut (by kernel_rfl) (of_decide_eq_true (by kernel_rfl)) k0 bel lt0) trodAll_mk0), rfl, bel.frame _, fun h => by cases h⟩
theorem over : Rows.fnExactParsePolicyRow.holds Tryz.pinned (OpenSpec.ofChange Rows.fnExactParsePolicySpec) :=
  OpenClaim.holds_of_wide 3 Tryz.f3 rfl rfl rfl rfl rfl rfl rfl ⟨rfl, rfl, rfl, rfl, rfl⟩ rfl rfl rfl rfl rfl (by kernel_rfl) Tryz.func3 (by kernel_rfl)
    (of_decide_eq_true (by kernel_rfl)) (by unfold Func.isWrapper; first | (rw [if_pos (by decide +kernel)]; kernel_rfl) | (rw [if_neg (by decide +kernel)]; exact ⟨rfl, rfl⟩))
    (fun os started H enc _ => lifted os started H enc)
theorem card : Rows.FnExactParsePolicyCardSaid :=
  Claim7.holds_tied_plain_at .later [] [.data, .data, .data, .data, .sentinel, .sentinel, .pinned] true (true, "bbe67405d155a4364471ad1d897c0afbdc935997fcae7e4c54b2cdf56fd6a091") true over (fun _ h => by cases h) (by kernel_rfl) (fun _ h => by cases h) fnExactParsePolicy_row_tie rfl ⟨rfl, rfl⟩ (by kernel_rfl) rfl
    (fun f fn hf hfn => by
      obtain rfl : f = 3 := (Option.some.inj ((show Tryz.prog.funcNamed "loop.example/g00213/laws.FnExactParsePolicy" = some 3 by kernel_rfl).symm.trans hf)).symm
      obtain rfl : fn = Tryz.f3 := (Option.some.inj (Tryz.func3.symm.trans hfn)).symm
      refine ⟨by kernel_rfl, fun j t ht => ?_⟩
      rw [Tryz.params3] at ht
      rcases j with _ | j
      · obtain rfl : t = 9 := by simpa using ht.symm
        exact (show Tryz.prog.wantsStandIn 9 = false by kernel_rfl)
      simp at ht)
    (by kernel_rfl)
end Go.Proofs.YtojaakpnpdnbhaaGreatDoor.L.FnExactParsePolicy
namespace Go.Proofs.YtojaakpnpdnbhaaGreatDoor
theorem fnExactParsePolicy_holds : Rows.FnExactParsePolicyCardSaid := L.FnExactParsePolicy.card
#print axioms fnExactParsePolicy_holds
end Go.Proofs.YtojaakpnpdnbhaaGreatDoor
