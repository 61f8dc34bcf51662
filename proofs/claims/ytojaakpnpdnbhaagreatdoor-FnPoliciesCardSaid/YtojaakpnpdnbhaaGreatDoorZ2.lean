/- The symbolic logic and the contracts that the proof leans on, part 2. -/
import Derived.Test.YtojaakpnpdnbhaaGreatDoorMc
import Derived.Test.YtojaakpnpdnbhaaGreatDoorZ1
/- What is wrong with a policy: the reference's contracts, the whole. -/
set_option linter.unusedVariables false
set_option linter.unusedSimpArgs false
set_option maxRecDepth 100000
namespace Go.Proofs.YtojaakpnpdnbhaaGreatDoor.L
open Go.RowKit
def restFault (x : PolM) : Int := if bellsBad x.own.length [] x.bls = 0 then planBad x.own.length x.pln else bellsBad x.own.length [] x.bls
set_option maxHeartbeats 1600000 in
theorem c_spec_l6Rest (x : PolM) (hs : x.small) : FnOK Tryz.prog 34 [polP x] (ri (restFault x)) := by
  have hl := hs.bls
  have hpl := hs.pln
  generalize hv : restFault x = v
  unfold restFault planBad at hv
  generalize hbc : bellsBad x.own.length [] x.bls = bc at hv
  generalize hpc : firstNZ (x.pln.map (slotBad x.own.length)) = pc at hv
  refine fn_of lv34 Tryz.func34 rfl rfl (by kernel_rfl) rfl ?_
  refine ⟨{ i : Nat // i ≤ x.bls.length ∧ bellsBad x.own.length (x.bls.take i) (x.bls.drop i) = bc }, fun i => ⟨frL [(0, polP x), (3, di i.1)], hpL [], 96, 0⟩, fun i => x.bls.length - i.1, ⟨0, by omega, hbc⟩,
    le_of [] rfl rfl rfl rfl trivial (tellFr_x rfl ⟨DLe.refl _, DLe.refl _, DLe.refl _, DLe.refl _, trivial⟩ (tellFr_v rfl rfl trivial)), ?_⟩
  rintro ⟨i, hi, hall⟩
  by_cases h3 : i < x.bls.length
  · rw [bells_step _ _ _ h3] at hall
    have c1 := c_spec_l6Ends x hs (x.bls.getD i ⟨0, 0⟩).frm (x.bls.getD i ⟨0, 0⟩).to
    obtain ⟨b, hb⟩ : ∃ b, b = bellBad x.own.length (x.bls.getD i ⟨0, 0⟩) (x.bls.take i) := ⟨_, rfl⟩
    rw [← hb] at hall
    unfold bellBad at hb
    generalize endsF x.own.length (x.bls.getD i ⟨0, 0⟩).frm (x.bls.getD i ⟨0, 0⟩).to = e at hb c1
    have stop : ∀ r : Int, b = r → r ≠ 0 → r = v := fun r e1 e2 => by
      rw [e1, if_neg e2] at hall
      rw [if_neg (by rw [← hall]; exact e2), ← hall] at hv
      exact hv
    refine bsplit_of_true (decide_eq_true (by show (i : Int) < (x.bls.length : Int); omega)) ?_
    refine ask_intro ⟨by omega, by show (i : Int) < (x.bls.length : Int); omega, rfl⟩ ?_
    refine .inl ⟨_, _, rfl, c1, rfl, ?_⟩
    refine bsplit_intro (fun h4 => ?_) (fun h4 => ?_)
    · have h4 : ¬ e = 0 := by simpa using h4
      rw [if_neg h4] at hb
      exact ⟨⟨congrArg (Value.int .i64) (stop e hb h4), trivial⟩, rfl⟩
    have h4 : e = 0 := by simpa using h4
    rw [if_pos h4] at hb
    have hlt : (x.bls.take i).length = i := by rw [List.length_take]; omega
    refine ⟨{ k : Nat // k ≤ i ∧ ((x.bls.take i).drop k).any (fun a => a == x.bls.getD i ⟨0, 0⟩) = (x.bls.take i).any (fun a => a == x.bls.getD i ⟨0, 0⟩) },
      fun k => ⟨frL [(0, polP x), (3, di i), (4, .ptr 64 0), (6, di k.1)], hpL [(64, .box 57 [di (x.bls.getD i ⟨0, 0⟩).frm, di (x.bls.getD i ⟨0, 0⟩).to])], 96, 0⟩, fun k => i - k.1, ⟨0, by omega, by rw [List.drop_zero]⟩,
      le_of [(64, 4416)] rfl rfl rfl rfl (tellHp_box rfl rfl ⟨rfl, rfl, trivial⟩ tellHp_nil) (tellFr_x rfl ⟨DLe.refl _, DLe.refl _, DLe.refl _, DLe.refl _, trivial⟩ (tellFr_v rfl rfl (tellFr_ptr rfl rfl (tellFr_v rfl rfl trivial)))), ?_⟩
    rintro ⟨k, hk, hall2⟩
    by_cases h6 : k < i
    rotate_left
    · rw [List.drop_eq_nil_of_le (by omega)] at hall2
      rw [← hall2] at hb
      have hb : b = 0 := hb
      rw [if_pos hb] at hall
      refine bsplit_of_false (decide_eq_false (by show ¬ (k : Int) < (i : Int); omega)) ?_
      exact ⟨⟨i + 1, by omega, hall⟩, le_of [] rfl rfl rfl rfl trivial (tellFr_x rfl ⟨DLe.refl _, DLe.refl _, DLe.refl _, DLe.refl _, trivial⟩ (tellFr_v rfl (congrArg (Value.int .i64) (wrap1 h3 (by omega))) trivial)), by show x.bls.length - (i + 1) < x.bls.length - i; omega⟩
    rw [drop_anyG ⟨0, 0⟩ _ _ k (by omega), getD_take _ _ _ _ h6] at hall2
    have hq : ([(x.bls.getD k ⟨0, 0⟩).frm, (x.bls.getD k ⟨0, 0⟩).to] == [(x.bls.getD i ⟨0, 0⟩).frm, (x.bls.getD i ⟨0, 0⟩).to]) = (x.bls.getD k ⟨0, 0⟩ == x.bls.getD i ⟨0, 0⟩) := by
      have := congrFun (bellBeq (x.bls.getD k ⟨0, 0⟩)) (x.bls.getD i ⟨0, 0⟩)
      rw [this]
      by_cases h : x.bls.getD i ⟨0, 0⟩ = x.bls.getD k ⟨0, 0⟩
      · rw [h]
      · rw [beq_eq_false_iff_ne.2 h, beq_eq_false_iff_ne.2 (Ne.symm h)]
    rw [← hq] at hall2
    refine bsplit_of_true (decide_eq_true (by show (k : Int) < (i : Int); omega)) ?_
    refine ask_intro ⟨by omega, by show (k : Int) < (x.bls.length : Int); omega, rfl⟩ ?_
    refine chk_intro (by kernel_rfl) ?_
    refine bsplit_intro (fun h7 => ?_) (fun h7 => ?_)
    · rw [show ([(x.bls.getD k ⟨0, 0⟩).frm, (x.bls.getD k ⟨0, 0⟩).to] == [(x.bls.getD i ⟨0, 0⟩).frm, (x.bls.getD i ⟨0, 0⟩).to]) = true from h7, Bool.true_or] at hall2
      rw [← hall2] at hb
      exact ⟨⟨congrArg (Value.int .i64) (stop 6 hb (by decide)), trivial⟩, rfl⟩
    · rw [show ([(x.bls.getD k ⟨0, 0⟩).frm, (x.bls.getD k ⟨0, 0⟩).to] == [(x.bls.getD i ⟨0, 0⟩).frm, (x.bls.getD i ⟨0, 0⟩).to]) = false from h7, Bool.false_or] at hall2
      exact ⟨⟨k + 1, by omega, hall2⟩, le_of [(64, 64)] rfl rfl rfl rfl (tellHp_box rfl rfl ⟨rfl, rfl, trivial⟩ tellHp_nil) (tellFr_x rfl ⟨DLe.refl _, DLe.refl _, DLe.refl _, DLe.refl _, trivial⟩ (tellFr_v rfl rfl (tellFr_ptr rfl rfl (tellFr_v rfl (congrArg (Value.int .i64) (wrap1 (Nat.lt_trans h6 h3) (by omega))) trivial)))), by show i - (k + 1) < i - k; omega⟩
  rw [List.drop_eq_nil_of_le (by omega)] at hall
  have hall : 0 = bc := hall
  rw [if_pos hall.symm] at hv
  refine bsplit_of_false (decide_eq_false (by show ¬ (i : Int) < (x.bls.length : Int); omega)) ?_
  refine bsplit_intro (fun h => ?_) (fun h => ?_)
  · repeat' (first | refine bsplit_true ?_ | refine bsplit_false ?_)
    have h : decide ((x.pln.length : Int) < 1) = true := h
    rw [show inR (x.pln.length : Int) 1 8 = false from by unfold inR; have := of_decide_eq_true h; simp; omega] at hv
    exact ⟨⟨congrArg (Value.int .i64) hv, trivial⟩, rfl⟩
  repeat' (first | refine bsplit_true ?_ | refine bsplit_false ?_)
  refine bsplit_intro (fun h2 => ?_) (fun h2 => ?_)
  · have h2 : decide ((x.pln.length : Int) > 8) = true := h2
    rw [show inR (x.pln.length : Int) 1 8 = false from by unfold inR; have := of_decide_eq_true h2; simp; omega] at hv
    exact ⟨⟨congrArg (Value.int .i64) hv, trivial⟩, rfl⟩
  have hn1 : ¬ (x.pln.length : Int) < 1 := of_decide_eq_false h
  have hn2 : ¬ (x.pln.length : Int) > 8 := of_decide_eq_false h2
  rw [show inR (x.pln.length : Int) 1 8 = true from inR_iff.2 ⟨by omega, by omega⟩] at hv
  have hv : pc = v := hv
  refine ⟨{ i : Nat // i ≤ x.pln.length ∧ firstNZ ((x.pln.drop i).map (slotBad x.own.length)) = v }, fun i => ⟨frL [(0, polP x), (7, di i.1)], hpL [], 96, 0⟩, fun i => x.pln.length - i.1, ⟨0, by omega, by rw [← hv, ← hpc]; rfl⟩,
    le_of [] rfl rfl rfl rfl trivial (tellFr_x rfl ⟨DLe.refl _, DLe.refl _, DLe.refl _, DLe.refl _, trivial⟩ (tellFr_v rfl rfl trivial)), ?_⟩
  rintro ⟨j, hj, hall3⟩
  by_cases h1 : j < x.pln.length
  · rw [map_drop ⟨0, 0⟩ _ _ _ h1] at hall3
    refine bsplit_of_true (decide_eq_true (by show (j : Int) < (x.pln.length : Int); omega)) ?_
    refine ask_intro ⟨by omega, by show (j : Int) < (x.pln.length : Int); omega, rfl⟩ ?_
    refine .inl ⟨_, _, rfl, c_spec_l6Guest x hs (x.pln.getD j ⟨0, 0⟩).guest, rfl, ?_⟩
    refine bsplit_intro (fun h2 => ?_) (fun h2 => ?_)
    · have e : slotBad x.own.length (x.pln.getD j ⟨0, 0⟩) = 4 := by
        unfold slotBad
        rw [show (!guestB x.own.length (x.pln.getD j ⟨0, 0⟩).guest) = true from h2]; rfl
      rw [e] at hall3
      exact ⟨⟨congrArg (Value.int .i64) hall3, trivial⟩, rfl⟩
    refine ask_intro ⟨by omega, by show (j : Int) < (x.pln.length : Int); omega, rfl⟩ ?_
    refine .inl ⟨_, _, rfl, c_spec_l1In (x.pln.getD j ⟨0, 0⟩).steps 1 50, rfl, ?_⟩
    refine bsplit_intro (fun h3 => ?_) (fun h3 => ?_)
    · have e : slotBad x.own.length (x.pln.getD j ⟨0, 0⟩) = 3 := by
        unfold slotBad
        rw [show (!guestB x.own.length (x.pln.getD j ⟨0, 0⟩).guest) = false from h2, show (!inR (x.pln.getD j ⟨0, 0⟩).steps 1 50) = true from h3]; rfl
      rw [e] at hall3
      exact ⟨⟨congrArg (Value.int .i64) hall3, trivial⟩, rfl⟩
    have e : slotBad x.own.length (x.pln.getD j ⟨0, 0⟩) = 0 := by
      unfold slotBad
      rw [show (!guestB x.own.length (x.pln.getD j ⟨0, 0⟩).guest) = false from h2, show (!inR (x.pln.getD j ⟨0, 0⟩).steps 1 50) = false from h3]; rfl
    rw [e] at hall3
    exact ⟨⟨j + 1, by omega, hall3⟩, le_of [] rfl rfl rfl rfl trivial (tellFr_x rfl ⟨DLe.refl _, DLe.refl _, DLe.refl _, DLe.refl _, trivial⟩ (tellFr_v rfl (congrArg (Value.int .i64) (wrap1 h1 (by omega))) trivial)), by show x.pln.length - (j + 1) < x.pln.length - j; omega⟩
  · rw [List.drop_eq_nil_of_le (by omega)] at hall3
    refine bsplit_of_false (decide_eq_false (by show ¬ (j : Int) < (x.pln.length : Int); omega)) ?_
    exact ⟨⟨congrArg (Value.int .i64) hall3, trivial⟩, rfl⟩
theorem c_spec_l6Fault (x : PolM) (hs : x.small) : FnOK Tryz.prog 18 [polP x] (ri (polFault x)) := by
  have c1 := c_spec_l6Owns x hs
  have c2 := c_spec_l6Lanes x hs
  have c3 := c_spec_l6Rest x hs
  generalize hv : polFault x = v
  have hv : (if ownBad x.own = 0 then (if lanesFault x = 0 then restFault x else lanesFault x) else ownBad x.own) = v := by
    rw [← hv]
    unfold polFault lanesFault restFault
    cases (decide (x.lns.length > 4) || decide (x.bls.length > 4)) with
    | true => simp
    | false => rfl
  generalize ownBad x.own = e1 at *
  generalize lanesFault x = e2 at *
  generalize restFault x = e3 at *
  refine fn_of lv18 Tryz.func18 rfl rfl (by kernel_rfl) rfl ?_
  refine .inl ⟨_, _, rfl, c1, rfl, ?_⟩
  refine bsplit_intro (fun h => ?_) (fun h => ?_)
  · rw [if_neg (by simpa using h)] at hv
    exact ⟨⟨congrArg (Value.int .i64) hv, trivial⟩, rfl⟩
  rw [if_pos (by simpa using h)] at hv
  refine .inl ⟨_, _, rfl, c2, rfl, ?_⟩
  refine bsplit_intro (fun h2 => ?_) (fun h2 => ?_)
  · rw [if_neg (by simpa using h2)] at hv
    exact ⟨⟨congrArg (Value.int .i64) hv, trivial⟩, rfl⟩
  rw [if_pos (by simpa using h2)] at hv
  refine .inl ⟨_, _, rfl, c3, rfl, ?_⟩
  exact ⟨⟨congrArg (Value.int .i64) hv, trivial⟩, rfl⟩
theorem c_spec_PolicyFault (x : PolM) (hs : x.small) : FnOK Tryz.prog 14 [polLV x] (ri (polFault x)) := by
  refine fn_of lv14 Tryz.func14 rfl rfl (by kernel_rfl) rfl ?_
  refine .inl ⟨_, _, rfl, c_spec_l6Fault x hs, rfl, ?_⟩
  exact ⟨⟨rfl, trivial⟩, rfl⟩
end Go.Proofs.YtojaakpnpdnbhaaGreatDoor.L

/- What the law functions compute that mark policies: contracts. -/
set_option linter.unusedVariables false
set_option linter.unusedSimpArgs false
set_option maxRecDepth 100000
namespace Go.Proofs.YtojaakpnpdnbhaaGreatDoor.L
open Go.RowKit
abbrev rowLane (l : List LaneM) : Ent := .row 55 5 l.length (lanesF l)
abbrev laneMk (k : Int) (j : Nat) : List D := [.v (.int .i64 (k + 5 * (j : Int))), .v (.int .i64 (k + 5 * (j : Int) + 1)), .v (.int .i64 (k + 5 * (j : Int) + 2)), .v (.int .i64 (k + 5 * (j : Int) + 3)), .v (.int .i64 (k + 5 * (j : Int) + 4))]
set_option maxHeartbeats 1600000 in
theorem c_laws_markLaneS (l : List LaneM) (k : Int) (hl : l.length ≤ 109951162777) (hk : 0 ≤ k) (hk2 : k ≤ 1099511627776) :
    MutOK Tryz.prog 50 [.row 0, di k] 1 [(0, rowLane l)] (di (k + 5 * l.length)) 1 [(0, .row 55 5 l.length (laneMk k))] := by
  refine mut_fn_of lv50 Tryz.func50 rfl rfl (by kernel_rfl) rfl [] ?_
  refine ⟨{ i : Nat // i ≤ l.length }, fun i => ⟨frL [(0, .row 0), (1, di (k + 5 * (i.1 : Int))), (5, di i.1)], hpL [(0, .row 55 5 l.length fun j => if j < i.1 then laneMk k j else lanesF l j)], 1, 1⟩, fun i => l.length - i.1, ⟨0, by omega⟩,
    le_of [] rfl rfl rfl rfl (tellHp_row rfl rfl rfl (fun i hi => rfl) tellHp_nil) (tellFr_row rfl rfl (tellFr_v rfl (congrArg (Value.int .i64) (?_ : k = k + 5 * ((0 : Nat) : Int))) (tellFr_v rfl rfl trivial))), ?_⟩
  · omega
  rintro ⟨i, hi⟩
  refine bsplit_intro (fun h => ?_) (fun h => ?_)
  · have h : i < l.length := by simp at h; exact h
    have w1 : IntKind.i64.wrap (k + 5 * (i : Int) + 1) = k + 5 * (i : Int) + 1 := (wrap_i64 _ (by omega) (by omega)).trans (by omega)
    have w2 : IntKind.i64.wrap (k + 5 * (i : Int) + 1 + 1) = k + 5 * (i : Int) + 2 := (wrap_i64 _ (by omega) (by omega)).trans (by omega)
    have w3 : IntKind.i64.wrap (k + 5 * (i : Int) + 2 + 1) = k + 5 * (i : Int) + 3 := (wrap_i64 _ (by omega) (by omega)).trans (by omega)
    have w4 : IntKind.i64.wrap (k + 5 * (i : Int) + 3 + 1) = k + 5 * (i : Int) + 4 := (wrap_i64 _ (by omega) (by omega)).trans (by omega)
    refine ask_intro ⟨by omega, by show (i : Int) < (l.length : Int); omega⟩ ?_
    refine ask_intro (by show i < l.length; exact h) ?_
    refine ask_intro ⟨by omega, by show (i : Int) < (l.length : Int); omega⟩ ?_
    refine ask_intro (by show i < l.length; exact h) ?_
    refine ask_intro ⟨by omega, by show (i : Int) < (l.length : Int); omega⟩ ?_
    refine ask_intro (by show i < l.length; exact h) ?_
    refine ask_intro ⟨by omega, by show (i : Int) < (l.length : Int); omega⟩ ?_
    refine ask_intro (by show i < l.length; exact h) ?_
    refine ask_intro ⟨by omega, by show (i : Int) < (l.length : Int); omega⟩ ?_
    refine ask_intro (by show i < l.length; exact h) ?_
    refine ⟨⟨i + 1, by omega⟩, le_of [] rfl rfl rfl rfl (tellHp_row rfl rfl rfl (fun j hj => ?_) tellHp_nil) (tellFr_row rfl rfl (tellFr_v rfl (congrArg (Value.int .i64) (?_ : IntKind.i64.wrap (IntKind.i64.wrap (IntKind.i64.wrap (IntKind.i64.wrap (IntKind.i64.wrap (k + 5 * (i : Int) + 1) + 1) + 1) + 1) + 1) = k + 5 * ((i + 1 : Nat) : Int))) (tellFr_v rfl (congrArg (Value.int .i64) (?_ : IntKind.i64.wrap ((i : Int) + 1) = ((i + 1 : Nat) : Int))) trivial))), by show l.length - (i + 1) < l.length - i; omega⟩
    · show (if j = i then splice (if j = i then splice (if j = i then splice (if j = i then splice (if j = i then splice (if j < i then laneMk k j else lanesF l j) 0 [D.v (.int .i64 (k + 5 * (i : Int)))] else (if j < i then laneMk k j else lanesF l j)) 1 [D.v (.int .i64 (IntKind.i64.wrap (k + 5 * (i : Int) + 1)))] else (if j = i then splice (if j < i then laneMk k j else lanesF l j) 0 [D.v (.int .i64 (k + 5 * (i : Int)))] else (if j < i then laneMk k j else lanesF l j))) 2 [D.v (.int .i64 (IntKind.i64.wrap (IntKind.i64.wrap (k + 5 * (i : Int) + 1) + 1)))] else (if j = i then splice (if j = i then splice (if j < i then laneMk k j else lanesF l j) 0 [D.v (.int .i64 (k + 5 * (i : Int)))] else (if j < i then laneMk k j else lanesF l j)) 1 [D.v (.int .i64 (IntKind.i64.wrap (k + 5 * (i : Int) + 1)))] else (if j = i then splice (if j < i then laneMk k j else lanesF l j) 0 [D.v (.int .i64 (k + 5 * (i : Int)))] else (if j < i then laneMk k j else lanesF l j)))) 3 [D.v (.int .i64 (IntKind.i64.wrap (IntKind.i64.wrap (IntKind.i64.wrap (k + 5 * (i : Int) + 1) + 1) + 1)))] else (if j = i then splice (if j = i then splice (if j = i then splice (if j < i then laneMk k j else lanesF l j) 0 [D.v (.int .i64 (k + 5 * (i : Int)))] else (if j < i then laneMk k j else lanesF l j)) 1 [D.v (.int .i64 (IntKind.i64.wrap (k + 5 * (i : Int) + 1)))] else (if j = i then splice (if j < i then laneMk k j else lanesF l j) 0 [D.v (.int .i64 (k + 5 * (i : Int)))] else (if j < i then laneMk k j else lanesF l j))) 2 [D.v (.int .i64 (IntKind.i64.wrap (IntKind.i64.wrap (k + 5 * (i : Int) + 1) + 1)))] else (if j = i then splice (if j = i then splice (if j < i then laneMk k j else lanesF l j) 0 [D.v (.int .i64 (k + 5 * (i : Int)))] else (if j < i then laneMk k j else lanesF l j)) 1 [D.v (.int .i64 (IntKind.i64.wrap (k + 5 * (i : Int) + 1)))] else (if j = i then splice (if j < i then laneMk k j else lanesF l j) 0 [D.v (.int .i64 (k + 5 * (i : Int)))] else (if j < i then laneMk k j else lanesF l j))))) 4 [D.v (.int .i64 (IntKind.i64.wrap (IntKind.i64.wrap (IntKind.i64.wrap (IntKind.i64.wrap (k + 5 * (i : Int) + 1) + 1) + 1) + 1)))] else (if j = i then splice (if j = i then splice (if j = i then splice (if j = i then splice (if j < i then laneMk k j else lanesF l j) 0 [D.v (.int .i64 (k + 5 * (i : Int)))] else (if j < i then laneMk k j else lanesF l j)) 1 [D.v (.int .i64 (IntKind.i64.wrap (k + 5 * (i : Int) + 1)))] else (if j = i then splice (if j < i then laneMk k j else lanesF l j) 0 [D.v (.int .i64 (k + 5 * (i : Int)))] else (if j < i then laneMk k j else lanesF l j))) 2 [D.v (.int .i64 (IntKind.i64.wrap (IntKind.i64.wrap (k + 5 * (i : Int) + 1) + 1)))] else (if j = i then splice (if j = i then splice (if j < i then laneMk k j else lanesF l j) 0 [D.v (.int .i64 (k + 5 * (i : Int)))] else (if j < i then laneMk k j else lanesF l j)) 1 [D.v (.int .i64 (IntKind.i64.wrap (k + 5 * (i : Int) + 1)))] else (if j = i then splice (if j < i then laneMk k j else lanesF l j) 0 [D.v (.int .i64 (k + 5 * (i : Int)))] else (if j < i then laneMk k j else lanesF l j)))) 3 [D.v (.int .i64 (IntKind.i64.wrap (IntKind.i64.wrap (IntKind.i64.wrap (k + 5 * (i : Int) + 1) + 1) + 1)))] else (if j = i then splice (if j = i then splice (if j = i then splice (if j < i then laneMk k j else lanesF l j) 0 [D.v (.int .i64 (k + 5 * (i : Int)))] else (if j < i then laneMk k j else lanesF l j)) 1 [D.v (.int .i64 (IntKind.i64.wrap (k + 5 * (i : Int) + 1)))] else (if j = i then splice (if j < i then laneMk k j else lanesF l j) 0 [D.v (.int .i64 (k + 5 * (i : Int)))] else (if j < i then laneMk k j else lanesF l j))) 2 [D.v (.int .i64 (IntKind.i64.wrap (IntKind.i64.wrap (k + 5 * (i : Int) + 1) + 1)))] else (if j = i then splice (if j = i then splice (if j < i then laneMk k j else lanesF l j) 0 [D.v (.int .i64 (k + 5 * (i : Int)))] else (if j < i then laneMk k j else lanesF l j)) 1 [D.v (.int .i64 (IntKind.i64.wrap (k + 5 * (i : Int) + 1)))] else (if j = i then splice (if j < i then laneMk k j else lanesF l j) 0 [D.v (.int .i64 (k + 5 * (i : Int)))] else (if j < i then laneMk k j else lanesF l j)))))) = if j < i + 1 then laneMk k j else lanesF l j
      by_cases h1 : j = i
      · subst h1
        rw [if_pos (show j < j + 1 by omega)]
        simp only [eq_self, if_true, Nat.lt_irrefl, if_false, w1, w2, w3, w4]
        rfl
      · simp only [h1, if_false]
        by_cases h2 : j < i
        · rw [if_pos h2, if_pos (by omega)]
        · rw [if_neg h2, if_neg (by omega)]
    · simp only [w1, w2, w3, w4]
      rw [wrap_i64 _ (by omega) (by omega)]; omega
    · exact wrap_i64 (i + 1) (by omega) (by omega)
  · simp at h
    have e : i = l.length := by omega
    subst e
    refine chk_intro (by kernel_rfl) ⟨tellV_v rfl rfl, tellHp_row rfl rfl rfl (fun j hj => ?_) tellHp_nil⟩
    show (if j < l.length then laneMk k j else lanesF l j) = laneMk k j
    rw [if_pos hj]
abbrev rowBell (l : List BellM) : Ent := .row 57 2 l.length (bellsF l)
abbrev bellMk (k : Int) (j : Nat) : List D := [.v (.int .i64 (k + 2 * (j : Int))), .v (.int .i64 (k + 2 * (j : Int) + 1))]
set_option maxHeartbeats 1600000 in
theorem c_laws_markBellS (l : List BellM) (k : Int) (hl : l.length ≤ 109951162777) (hk : 0 ≤ k) (hk2 : k ≤ 1099511627776) :
    MutOK Tryz.prog 51 [.row 0, di k] 1 [(0, rowBell l)] (di (k + 2 * l.length)) 1 [(0, .row 57 2 l.length (bellMk k))] := by
  refine mut_fn_of lv51 Tryz.func51 rfl rfl (by kernel_rfl) rfl [] ?_
  refine ⟨{ i : Nat // i ≤ l.length }, fun i => ⟨frL [(0, .row 0), (1, di (k + 2 * (i.1 : Int))), (5, di i.1)], hpL [(0, .row 57 2 l.length fun j => if j < i.1 then bellMk k j else bellsF l j)], 1, 1⟩, fun i => l.length - i.1, ⟨0, by omega⟩,
    le_of [] rfl rfl rfl rfl (tellHp_row rfl rfl rfl (fun i hi => rfl) tellHp_nil) (tellFr_row rfl rfl (tellFr_v rfl (congrArg (Value.int .i64) (?_ : k = k + 2 * ((0 : Nat) : Int))) (tellFr_v rfl rfl trivial))), ?_⟩
  · omega
  rintro ⟨i, hi⟩
  refine bsplit_intro (fun h => ?_) (fun h => ?_)
  · have h : i < l.length := by simp at h; exact h
    have w1 : IntKind.i64.wrap (k + 2 * (i : Int) + 1) = k + 2 * (i : Int) + 1 := (wrap_i64 _ (by omega) (by omega)).trans (by omega)
    refine ask_intro ⟨by omega, by show (i : Int) < (l.length : Int); omega⟩ ?_
    refine ask_intro (by show i < l.length; exact h) ?_
    refine ask_intro ⟨by omega, by show (i : Int) < (l.length : Int); omega⟩ ?_
    refine ask_intro (by show i < l.length; exact h) ?_
    refine ⟨⟨i + 1, by omega⟩, le_of [] rfl rfl rfl rfl (tellHp_row rfl rfl rfl (fun j hj => ?_) tellHp_nil) (tellFr_row rfl rfl (tellFr_v rfl (congrArg (Value.int .i64) (?_ : IntKind.i64.wrap (IntKind.i64.wrap (k + 2 * (i : Int) + 1) + 1) = k + 2 * ((i + 1 : Nat) : Int))) (tellFr_v rfl (congrArg (Value.int .i64) (?_ : IntKind.i64.wrap ((i : Int) + 1) = ((i + 1 : Nat) : Int))) trivial))), by show l.length - (i + 1) < l.length - i; omega⟩
    · show (if j = i then splice (if j = i then splice (if j < i then bellMk k j else bellsF l j) 0 [D.v (.int .i64 (k + 2 * (i : Int)))] else (if j < i then bellMk k j else bellsF l j)) 1 [D.v (.int .i64 (IntKind.i64.wrap (k + 2 * (i : Int) + 1)))] else (if j = i then splice (if j < i then bellMk k j else bellsF l j) 0 [D.v (.int .i64 (k + 2 * (i : Int)))] else (if j < i then bellMk k j else bellsF l j))) = if j < i + 1 then bellMk k j else bellsF l j
      by_cases h1 : j = i
      · subst h1
        rw [if_pos (show j < j + 1 by omega)]
        simp only [eq_self, if_true, Nat.lt_irrefl, if_false, w1]
        rfl
      · simp only [h1, if_false]
        by_cases h2 : j < i
        · rw [if_pos h2, if_pos (by omega)]
        · rw [if_neg h2, if_neg (by omega)]
    · simp only [w1]
      rw [wrap_i64 _ (by omega) (by omega)]; omega
    · exact wrap_i64 (i + 1) (by omega) (by omega)
  · simp at h
    have e : i = l.length := by omega
    subst e
    refine chk_intro (by kernel_rfl) ⟨tellV_v rfl rfl, tellHp_row rfl rfl rfl (fun j hj => ?_) tellHp_nil⟩
    show (if j < l.length then bellMk k j else bellsF l j) = bellMk k j
    rw [if_pos hj]
abbrev rowSlot (l : List SlotM) : Ent := .row 59 2 l.length (slotsF l)
abbrev slotMk (k : Int) (j : Nat) : List D := [.v (.int .i64 (k + 2 * (j : Int))), .v (.int .i64 (k + 2 * (j : Int) + 1))]
set_option maxHeartbeats 1600000 in
theorem c_laws_markSlotS (l : List SlotM) (k : Int) (hl : l.length ≤ 109951162777) (hk : 0 ≤ k) (hk2 : k ≤ 1099511627776) :
    MutOK Tryz.prog 52 [.row 0, di k] 1 [(0, rowSlot l)] (di (k + 2 * l.length)) 1 [(0, .row 59 2 l.length (slotMk k))] := by
  refine mut_fn_of lv52 Tryz.func52 rfl rfl (by kernel_rfl) rfl [] ?_
  refine ⟨{ i : Nat // i ≤ l.length }, fun i => ⟨frL [(0, .row 0), (1, di (k + 2 * (i.1 : Int))), (5, di i.1)], hpL [(0, .row 59 2 l.length fun j => if j < i.1 then slotMk k j else slotsF l j)], 1, 1⟩, fun i => l.length - i.1, ⟨0, by omega⟩,
    le_of [] rfl rfl rfl rfl (tellHp_row rfl rfl rfl (fun i hi => rfl) tellHp_nil) (tellFr_row rfl rfl (tellFr_v rfl (congrArg (Value.int .i64) (?_ : k = k + 2 * ((0 : Nat) : Int))) (tellFr_v rfl rfl trivial))), ?_⟩
  · omega
  rintro ⟨i, hi⟩
  refine bsplit_intro (fun h => ?_) (fun h => ?_)
  · have h : i < l.length := by simp at h; exact h
    have w1 : IntKind.i64.wrap (k + 2 * (i : Int) + 1) = k + 2 * (i : Int) + 1 := (wrap_i64 _ (by omega) (by omega)).trans (by omega)
    refine ask_intro ⟨by omega, by show (i : Int) < (l.length : Int); omega⟩ ?_
    refine ask_intro (by show i < l.length; exact h) ?_
    refine ask_intro ⟨by omega, by show (i : Int) < (l.length : Int); omega⟩ ?_
    refine ask_intro (by show i < l.length; exact h) ?_
    refine ⟨⟨i + 1, by omega⟩, le_of [] rfl rfl rfl rfl (tellHp_row rfl rfl rfl (fun j hj => ?_) tellHp_nil) (tellFr_row rfl rfl (tellFr_v rfl (congrArg (Value.int .i64) (?_ : IntKind.i64.wrap (IntKind.i64.wrap (k + 2 * (i : Int) + 1) + 1) = k + 2 * ((i + 1 : Nat) : Int))) (tellFr_v rfl (congrArg (Value.int .i64) (?_ : IntKind.i64.wrap ((i : Int) + 1) = ((i + 1 : Nat) : Int))) trivial))), by show l.length - (i + 1) < l.length - i; omega⟩
    · show (if j = i then splice (if j = i then splice (if j < i then slotMk k j else slotsF l j) 0 [D.v (.int .i64 (k + 2 * (i : Int)))] else (if j < i then slotMk k j else slotsF l j)) 1 [D.v (.int .i64 (IntKind.i64.wrap (k + 2 * (i : Int) + 1)))] else (if j = i then splice (if j < i then slotMk k j else slotsF l j) 0 [D.v (.int .i64 (k + 2 * (i : Int)))] else (if j < i then slotMk k j else slotsF l j))) = if j < i + 1 then slotMk k j else slotsF l j
      by_cases h1 : j = i
      · subst h1
        rw [if_pos (show j < j + 1 by omega)]
        simp only [eq_self, if_true, Nat.lt_irrefl, if_false, w1]
        rfl
      · simp only [h1, if_false]
        by_cases h2 : j < i
        · rw [if_pos h2, if_pos (by omega)]
        · rw [if_neg h2, if_neg (by omega)]
    · simp only [w1]
      rw [wrap_i64 _ (by omega) (by omega)]; omega
    · exact wrap_i64 (i + 1) (by omega) (by omega)
  · simp at h
    have e : i = l.length := by omega
    subst e
    refine chk_intro (by kernel_rfl) ⟨tellV_v rfl rfl, tellHp_row rfl rfl rfl (fun j hj => ?_) tellHp_nil⟩
    show (if j < l.length then slotMk k j else slotsF l j) = slotMk k j
    rw [if_pos hj]
/-! ## rows of rows -/
abbrev nestE (l : List (List Int)) : Ent := .nest 44 2 1 l.length (lenF l) (inF l) []
abbrev offK (l : List (List Int)) (k : Int) (i : Nat) : Int := k + (sumN (l.take i) : Nat)
abbrev nestMk (l : List (List Int)) (k : Int) (i j : Nat) : List D := intsF (markL (offK l k i) (l.getD i []).length) j
theorem c_laws_markInt64SS (l : List (List Int)) (k : Int) (hl : l.length ≤ 1048576) (hs : sumN l ≤ 1048576) (hk : 0 ≤ k) (hk2 : k ≤ 1073741824) :
    MutOK Tryz.prog 49 [.row 0, di k] 1 [(0, nestE l)] (di (k + (sumN l : Nat))) 1 [(0, .nest 44 2 1 l.length (lenF l) (nestMk l k) [])] := by
  refine mut_fn_of lv49 Tryz.func49 rfl rfl (by kernel_rfl) rfl [] ?_
  refine ⟨{ i : Nat // i ≤ l.length }, fun i => ⟨frL [(0, .row 0), (1, di (offK l k i.1)), (5, di i.1)], hpL [(0, .nest 44 2 1 l.length (lenF l) (fun j => if j < i.1 then nestMk l k j else inF l j) [])], 1, 1⟩, fun i => l.length - i.1, ⟨0, by omega⟩,
    le_of [] rfl rfl rfl rfl (tellHp_nest rfl rfl rfl (fun i hi => ⟨rfl, fun j hj => rfl⟩) tellHp_nil) (tellFr_row rfl rfl (tellFr_v rfl (congrArg (Value.int .i64) (?_ : k = offK l k 0)) (tellFr_v rfl rfl trivial))), ?_⟩
  · simp [offK, sumN]
  rintro ⟨i, hi⟩
  refine ask_intro trivial ?_
  refine bsplit_intro (fun h => ?_) (fun h => ?_)
  · have h : i < l.length := by simp at h; exact h
    have e1 := sumN_take l i h
    have e2 := sumN_le l i
    have e3 := sumN_get l i h
    refine ask_intro ⟨by omega, by show (i : Int) < (l.length : Int); omega⟩ ?_
    refine ask_intro (by show i < l.length; exact h) ?_
    have cm := (c_laws_markInt64S (l.getD i []) (offK l k i) (by omega) (by show 0 ≤ k + (sumN (l.take i) : Nat); omega) (by show k + (sumN (l.take i) : Nat) ≤ _; omega)).rows (hp0' := [(0, .row 2 1 (lenF l i) (if i < i then nestMk l k i else inF l i))]) ⟨rfl, ⟨rfl, rfl, rfl, fun j hj => by rw [if_neg (Nat.lt_irrefl i)]⟩, trivial⟩
    refine .inr ⟨rfl, use_mut ⟨_, _, _, _, _, _, rfl, rfl, cm, rfl, ?_⟩⟩
    refine ⟨⟨i + 1, by omega⟩, le_of [] rfl rfl rfl rfl (tellHp_hole rfl rfl rfl rfl rfl rfl ⟨rfl, fun j hj => ?_⟩ (fun j hj hne => ⟨rfl, fun q hq => ?_⟩) tellHp_nil) (tellFr_row rfl rfl (tellFr_v rfl (congrArg (Value.int .i64) (?_ : offK l k i + ((l.getD i []).length : Int) = offK l k (i + 1))) (tellFr_v rfl (congrArg (Value.int .i64) (?_ : IntKind.i64.wrap ((i : Int) + 1) = ((i + 1 : Nat) : Int))) trivial))), by show l.length - (i + 1) < l.length - i; omega⟩
    · show _ = (if i < i + 1 then nestMk l k i else inF l i) j
      rw [if_pos (by omega)]
    · show (if j < i then nestMk l k j else inF l j) q = (if j < i + 1 then nestMk l k j else inF l j) q
      have hne : j ≠ i := hne
      by_cases h2 : j < i
      · rw [if_pos h2, if_pos (by omega)]
      · rw [if_neg h2, if_neg (by omega)]
    · show k + (sumN (l.take i) : Nat) + ((l.getD i []).length : Int) = k + (sumN (l.take (i + 1)) : Nat)
      omega
    · exact wrap_i64 (i + 1) (by omega) (by omega)
  · simp at h
    have e : i = l.length := by omega
    subst e
    refine chk_intro (by kernel_rfl) ⟨tellV_v rfl ?_, tellHp_nest rfl rfl rfl (fun j hj => ⟨rfl, fun q hq => ?_⟩) tellHp_nil⟩
    · show Value.int .i64 (k + (sumN (l.take l.length) : Nat)) = _
      rw [List.take_length]
    · show (if j < l.length then nestMk l k j else inF l j) q = nestMk l k j q
      rw [if_pos hj]
end Go.Proofs.YtojaakpnpdnbhaaGreatDoor.L

/- What the law functions compute that mark a policy: contracts. -/
set_option linter.unusedVariables false
set_option linter.unusedSimpArgs false
set_option maxRecDepth 100000
namespace Go.Proofs.YtojaakpnpdnbhaaGreatDoor.L
open Go.RowKit
abbrev polRows (x : PolM) : List (Nat × Ent) := [(0, nestE x.own), (1, rowLane x.lns), (2, rowBell x.bls), (3, rowSlot x.pln)]
abbrev polK1 (x : PolM) (k : Int) : Int := k + (sumN x.own : Nat)
abbrev polK2 (x : PolM) (k : Int) : Int := polK1 x k + 5 * (x.lns.length : Int)
abbrev polK3 (x : PolM) (k : Int) : Int := polK2 x k + 2 * (x.bls.length : Int)
abbrev polK (x : PolM) (k : Int) : Int := polK3 x k + 2 * (x.pln.length : Int)
abbrev polMarks (x : PolM) (k : Int) : List (Nat × Ent) := [(0, .nest 44 2 1 x.own.length (lenF x.own) (nestMk x.own k) []), (1, .row 55 5 x.lns.length (laneMk (polK1 x k))), (2, .row 57 2 x.bls.length (bellMk (polK2 x k))), (3, .row 59 2 x.pln.length (slotMk (polK3 x k)))]
theorem polK_b (x : PolM) (k : Int) (hf : (x.size : Int) ≤ 1048576) (h1 : 0 ≤ k) (h2 : k ≤ 1073741824) : 0 ≤ polK x k ∧ polK x k ≤ k + 5242880 := by
  have e : x.size = x.own.length + sumN x.own + x.lns.length + x.bls.length + x.pln.length := rfl
  show 0 ≤ k + (sumN x.own : Nat) + 5 * (x.lns.length : Int) + 2 * (x.bls.length : Int) + 2 * (x.pln.length : Int) ∧ k + (sumN x.own : Nat) + 5 * (x.lns.length : Int) + 2 * (x.bls.length : Int) + 2 * (x.pln.length : Int) ≤ _
  omega
theorem c_laws_markPolicy (x : PolM) (k : Int) (hf : (x.size : Int) ≤ 1048576) (hk : 0 ≤ k) (hk2 : k ≤ 1073741824) :
    MutOK Tryz.prog 23 [.agg [.row 0, .row 1, .row 2, .row 3], di k] 4 (polRows x) (di (polK x k)) 4 (polMarks x k) := by
  have e : x.size = x.own.length + sumN x.own + x.lns.length + x.bls.length + x.pln.length := rfl
  have c1 := c_laws_markInt64SS x.own k (by omega) (by omega) hk hk2
  have c2 := c_laws_markLaneS x.lns (polK1 x k) (by omega) (by show 0 ≤ k + (sumN x.own : Nat); omega) (by show k + (sumN x.own : Nat) ≤ _; omega)
  have c3 := c_laws_markBellS x.bls (polK2 x k) (by omega) (by show 0 ≤ k + (sumN x.own : Nat) + 5 * (x.lns.length : Int); omega) (by show k + (sumN x.own : Nat) + 5 * (x.lns.length : Int) ≤ _; omega)
  have c4 := c_laws_markSlotS x.pln (polK3 x k) (by omega) (by show 0 ≤ k + (sumN x.own : Nat) + 5 * (x.lns.length : Int) + 2 * (x.bls.length : Int); omega) (by show k + (sumN x.own : Nat) + 5 * (x.lns.length : Int) + 2 * (x.bls.length : Int) ≤ _; omega)
  refine mut_fn_of lv23 Tryz.func23 rfl rfl (by kernel_rfl) rfl [] ?_
  refine .inr ⟨rfl, use_mut ⟨_, _, _, _, _, _, rfl, rfl, c1, rfl, ?_⟩⟩
  refine .inr ⟨rfl, use_mut ⟨_, _, _, _, _, _, rfl, rfl, c2, rfl, ?_⟩⟩
  refine .inr ⟨rfl, use_mut ⟨_, _, _, _, _, _, rfl, rfl, c3, rfl, ?_⟩⟩
  refine .inr ⟨rfl, use_mut ⟨_, _, _, _, _, _, rfl, rfl, c4, rfl, ?_⟩⟩
  exact chk_intro (by kernel_rfl) ⟨tellV_v rfl rfl, tellHp_nest rfl rfl rfl (fun j hj => ⟨rfl, fun q hq => rfl⟩) (tellHp_row rfl rfl rfl (fun j hj => rfl) (tellHp_row rfl rfl rfl (fun j hj => rfl) (tellHp_row rfl rfl rfl (fun j hj => rfl) tellHp_nil)))⟩
end Go.Proofs.YtojaakpnpdnbhaaGreatDoor.L

/- The reference's reading of a policy: contracts. -/
set_option linter.unusedVariables false
set_option linter.unusedSimpArgs false
set_option maxRecDepth 100000
namespace Go.Proofs.YtojaakpnpdnbhaaGreatDoor.L
open Go.RowKit
abbrev rows4P (a b c d : Nat) : List LV := [.row a, .row b, .row c, .row d]
abbrev nil4P : List LV := [.d (.v (.slice none 0 0)), .d (.v (.slice none 0 0)), .d (.v (.slice none 0 0)), .d (.v (.slice none 0 0))]
theorem app_gen {α : Type} (d : α) (F : α → List D) (l : List α) (z : α) (g : Nat → List D) (hg : g 0 = F z) (q : Nat) (hq : q < l.length + 1) : upto l.length (fun i => F (l.getD i d)) g q = F ((l ++ [z]).getD q d) := by
  unfold upto
  by_cases h : q < l.length
  · rw [if_pos h]
    simp only [List.getD]
    rw [List.getElem?_append_left h]
  · rw [if_neg h]
    obtain rfl : q = l.length := by omega
    rw [Nat.sub_self, hg]
    simp [List.getD]
theorem app_inP (l : List (List Int)) (m : List Int) (j : Nat) (hj : j < l.length) : lenF l j = lenF (l ++ [m]) j ∧ ∀ q, inF l j q = inF (l ++ [m]) j q := by
  have e : (l ++ [m]).getD j [] = l.getD j [] := by simp only [List.getD]; rw [List.getElem?_append_left hj]
  exact ⟨by show (l.getD j []).length = ((l ++ [m]).getD j []).length; rw [e], fun q => by show intsF (l.getD j []) q = intsF ((l ++ [m]).getD j []) q; rw [e]⟩
theorem app_lastP (l : List (List Int)) (m : List Int) : (l ++ [m]).getD l.length [] = m := by simp [List.getD]
abbrev addMem (x : PolM) (n : List Int) : List (Nat × Ent) := [(0, .box 27 (rows4P 1 2 3 4)), (1, nestE x.own), (2, rowLane x.lns), (3, rowBell x.bls), (4, rowSlot x.pln), (5, rowE n)]
set_option maxHeartbeats 1600000 in
theorem c_spec_l6Add_0 (x : PolM) (n : List Int) (hx : x.own.length ≤ 100000) : MutOK Tryz.prog 17 [.ptr 0 0, di 0, .row 5] 6 (addMem x n) (.tup []) 7 [(0, .box 27 (rows4P 6 2 3 4)), (6, nestE (x.own ++ [n])), (2, rowLane x.lns), (3, rowBell x.bls), (4, rowSlot x.pln)] := by
  have hsl : (x.own ++ [n]).length = x.own.length + 1 := by simp
  refine mut_fn_of lv17 Tryz.func17 rfl rfl (by kernel_rfl) rfl [(6, 8422)] ?_
  repeat' (first | refine bsplit_true ?_ | refine bsplit_false ?_)
  refine ask_intro trivial ?_
  refine ask_intro ⟨by show (x.own.length + 1) * 24 ≤ 140737488355328; omega, by show x.own.length + 1 ≤ 9223372036854775807; omega, trivial⟩ ?_
  refine chk_intro (by kernel_rfl) ⟨trivial, tellHp_box rfl rfl ⟨rfl, rfl, rfl, rfl, trivial⟩ (tellHp_hole rfl rfl rfl rfl rfl hsl.symm ⟨?_, fun j hj => ?_⟩ (fun j hj hne => ⟨?_, fun u hu => ?_⟩) (tellHp_row rfl rfl rfl (fun j hj => rfl) (tellHp_row rfl rfl rfl (fun j hj => rfl) (tellHp_row rfl rfl rfl (fun j hj => rfl) tellHp_nil))))⟩
  · show n.length = ((x.own ++ [n]).getD x.own.length []).length
    rw [app_lastP]
  · show intsF n j = intsF ((x.own ++ [n]).getD x.own.length []) j
    rw [app_lastP]
  · have hj : j < x.own.length + 1 := hj
    have hne : j ≠ x.own.length := hne
    show (if j < x.own.length then lenF x.own j else 0) = _
    rw [if_pos (by omega)]
    exact (app_inP x.own n j (by omega)).1
  · have hj : j < x.own.length + 1 := hj
    have hne : j ≠ x.own.length := hne
    show (if j < x.own.length then inF x.own j else fun _ => []) u = _
    rw [if_pos (by omega)]
    exact (app_inP x.own n j (by omega)).2 u
set_option maxHeartbeats 1600000 in
theorem c_spec_l6Add_1 (x : PolM) (n : List Int) (hx : x.lns.length ≤ 100000) (hn : n.length = 5) : MutOK Tryz.prog 17 [.ptr 0 0, di 1, .row 5] 6 (addMem x n) (.tup []) 7 [(0, .box 27 (rows4P 1 6 3 4)), (1, nestE x.own), (6, rowLane (x.lns ++ [(⟨n.getD 0 0, n.getD 1 0, n.getD 2 0, n.getD 3 0, n.getD 4 0⟩ : LaneM)])), (3, rowBell x.bls), (4, rowSlot x.pln)] := by
  have hsl : (x.lns ++ [(⟨n.getD 0 0, n.getD 1 0, n.getD 2 0, n.getD 3 0, n.getD 4 0⟩ : LaneM)]).length = x.lns.length + 1 := by simp
  have hz := app_gen (⟨0, 0, 0, 0, 0⟩ : LaneM) laneD x.lns ⟨n.getD 0 0, n.getD 1 0, n.getD 2 0, n.getD 3 0, n.getD 4 0⟩ (fun i => ([laneD ⟨n.getD 0 0, n.getD 1 0, n.getD 2 0, n.getD 3 0, n.getD 4 0⟩] : List (List D)).getD i []) rfl
  refine mut_fn_of lv17 Tryz.func17 rfl rfl (by kernel_rfl) rfl [(6, 12998)] ?_
  repeat' (first | refine bsplit_true ?_ | refine bsplit_false ?_)
  refine ask_intro ⟨by decide, by show (0 : Int) < (n.length : Int); omega⟩ ?_
  refine ask_intro (show 0 < n.length by omega) ?_
  refine ask_intro ⟨by decide, by show (1 : Int) < (n.length : Int); omega⟩ ?_
  refine ask_intro (show 1 < n.length by omega) ?_
  refine ask_intro ⟨by decide, by show (2 : Int) < (n.length : Int); omega⟩ ?_
  refine ask_intro (show 2 < n.length by omega) ?_
  refine ask_intro ⟨by decide, by show (3 : Int) < (n.length : Int); omega⟩ ?_
  refine ask_intro (show 3 < n.length by omega) ?_
  refine ask_intro ⟨by decide, by show (4 : Int) < (n.length : Int); omega⟩ ?_
  refine ask_intro (show 4 < n.length by omega) ?_
  refine ask_intro ⟨by show (x.lns.length + 1) * 40 ≤ 140737488355328; omega, by show x.lns.length + 1 ≤ 9223372036854775807; omega, fun j hj => by obtain rfl : j = 0 := (by omega); rfl⟩ ?_
  exact chk_intro (by kernel_rfl) (chk_intro (by kernel_rfl) ⟨trivial, tellHp_box rfl rfl ⟨rfl, rfl, rfl, rfl, trivial⟩ (tellHp_nest rfl rfl rfl (fun i hi => ⟨rfl, fun j hj => rfl⟩) (tellHp_row rfl rfl hsl.symm (fun j hj => hz j hj) (tellHp_row rfl rfl rfl (fun j hj => rfl) (tellHp_row rfl rfl rfl (fun j hj => rfl) tellHp_nil))))⟩)
set_option maxHeartbeats 1600000 in
theorem c_spec_l6Add_2 (x : PolM) (n : List Int) (hx : x.bls.length ≤ 100000) (hn : n.length = 2) : MutOK Tryz.prog 17 [.ptr 0 0, di 2, .row 5] 6 (addMem x n) (.tup []) 7 [(0, .box 27 (rows4P 1 2 6 4)), (1, nestE x.own), (2, rowLane x.lns), (6, rowBell (x.bls ++ [(⟨n.getD 0 0, n.getD 1 0⟩ : BellM)])), (4, rowSlot x.pln)] := by
  have hsl : (x.bls ++ [(⟨n.getD 0 0, n.getD 1 0⟩ : BellM)]).length = x.bls.length + 1 := by simp
  have hz := app_gen (⟨0, 0⟩ : BellM) bellD x.bls ⟨n.getD 0 0, n.getD 1 0⟩ (fun i => ([bellD ⟨n.getD 0 0, n.getD 1 0⟩] : List (List D)).getD i []) rfl
  refine mut_fn_of lv17 Tryz.func17 rfl rfl (by kernel_rfl) rfl [(6, 16806)] ?_
  repeat' (first | refine bsplit_true ?_ | refine bsplit_false ?_)
  refine ask_intro ⟨by decide, by show (0 : Int) < (n.length : Int); omega⟩ ?_
  refine ask_intro (show 0 < n.length by omega) ?_
  refine ask_intro ⟨by decide, by show (1 : Int) < (n.length : Int); omega⟩ ?_
  refine ask_intro (show 1 < n.length by omega) ?_
  refine ask_intro ⟨by show (x.bls.length + 1) * 16 ≤ 140737488355328; omega, by show x.bls.length + 1 ≤ 9223372036854775807; omega, fun j hj => by obtain rfl : j = 0 := (by omega); rfl⟩ ?_
  exact chk_intro (by kernel_rfl) (chk_intro (by kernel_rfl) ⟨trivial, tellHp_box rfl rfl ⟨rfl, rfl, rfl, rfl, trivial⟩ (tellHp_nest rfl rfl rfl (fun i hi => ⟨rfl, fun j hj => rfl⟩) (tellHp_row rfl rfl rfl (fun j hj => rfl) (tellHp_row rfl rfl hsl.symm (fun j hj => hz j hj) (tellHp_row rfl rfl rfl (fun j hj => rfl) tellHp_nil))))⟩)
set_option maxHeartbeats 1600000 in
theorem c_spec_l6Add_3 (x : PolM) (n : List Int) (hx : x.pln.length ≤ 100000) (hn : n.length = 2) : MutOK Tryz.prog 17 [.ptr 0 0, di 3, .row 5] 6 (addMem x n) (.tup []) 7 [(0, .box 27 (rows4P 1 2 3 6)), (1, nestE x.own), (2, rowLane x.lns), (3, rowBell x.bls), (6, rowSlot (x.pln ++ [(⟨n.getD 0 0, n.getD 1 0⟩ : SlotM)]))] := by
  have hsl : (x.pln ++ [(⟨n.getD 0 0, n.getD 1 0⟩ : SlotM)]).length = x.pln.length + 1 := by simp
  have hz := app_gen (⟨0, 0⟩ : SlotM) slotD x.pln ⟨n.getD 0 0, n.getD 1 0⟩ (fun i => ([slotD ⟨n.getD 0 0, n.getD 1 0⟩] : List (List D)).getD i []) rfl
  refine mut_fn_of lv17 Tryz.func17 rfl rfl (by kernel_rfl) rfl [(6, 20902)] ?_
  repeat' (first | refine bsplit_true ?_ | refine bsplit_false ?_)
  refine ask_intro ⟨by decide, by show (0 : Int) < (n.length : Int); omega⟩ ?_
  refine ask_intro (show 0 < n.length by omega) ?_
  refine ask_intro ⟨by decide, by show (1 : Int) < (n.length : Int); omega⟩ ?_
  refine ask_intro (show 1 < n.length by omega) ?_
  refine ask_intro ⟨by show (x.pln.length + 1) * 16 ≤ 140737488355328; omega, by show x.pln.length + 1 ≤ 9223372036854775807; omega, fun j hj => by obtain rfl : j = 0 := (by omega); rfl⟩ ?_
  exact chk_intro (by kernel_rfl) (chk_intro (by kernel_rfl) ⟨trivial, tellHp_box rfl rfl ⟨rfl, rfl, rfl, rfl, trivial⟩ (tellHp_nest rfl rfl rfl (fun i hi => ⟨rfl, fun j hj => rfl⟩) (tellHp_row rfl rfl rfl (fun j hj => rfl) (tellHp_row rfl rfl rfl (fun j hj => rfl) (tellHp_row rfl rfl hsl.symm (fun j hj => hz j hj) tellHp_nil))))⟩)
end Go.Proofs.YtojaakpnpdnbhaaGreatDoor.L

/- The reference's ParsePolicy: a contract. -/
set_option linter.unusedVariables false
set_option linter.unusedSimpArgs false
set_option maxRecDepth 100000
namespace Go.Proofs.YtojaakpnpdnbhaaGreatDoor.L
open Go.RowKit
abbrev prR (q : Int × Int × PolM) : RV := .r (.agg [.v (.int .i64 q.1), .v (.int .i64 q.2.1), oOwns q.2.2.own, oLanes q.2.2.lns, oBells q.2.2.bls, oSlots q.2.2.pln])
abbrev nil6 : List LV := [di 0, di 0, .d (.v (.slice none 0 0)), .d (.v (.slice none 0 0)), .d (.v (.slice none 0 0)), .d (.v (.slice none 0 0))]
abbrev pmem (p : PolM) : List (Nat × Ent) := [(10, .box 29 nil6), (11, .box 27 (rows4P 12 13 14 15)), (12, nestE p.own), (13, rowLane p.lns), (14, rowBell p.bls), (15, rowSlot p.pln)]
theorem drop_two {L : List (List UInt8)} {i : Nat} (h : i + 1 < L.length) : ∃ y r, L.drop i = L.getD i [] :: y :: r ∧ L.drop (i + 1) = y :: r := by
  refine ⟨L[i + 1], L.drop (i + 2), ?_, List.drop_eq_getElem_cons h⟩
  rw [List.drop_eq_getElem_cons (by omega : i < L.length), List.drop_eq_getElem_cons h]
  congr 1
  simp [List.getD, show i < L.length by omega]
theorem drop_one {L : List (List UInt8)} {i : Nat} (h : i + 1 = L.length) : L.drop i = [L.getD i []] := by
  rw [List.drop_eq_getElem_cons (by omega : i < L.length), List.drop_of_length_le (by omega)]
  simp [List.getD, show i < L.length by omega]
theorem parse_bad {p : PolM} {last i : Int} {x y : List UInt8} {r : List (List UInt8)} (h : wordsW x = none) : parseR p last i (x :: y :: r) = (noPol, i, false) := by rw [parseR, h]
theorem parse_low {p : PolM} {last i k : Int} {n : List Int} {x y : List UInt8} {r : List (List UInt8)} (h : wordsW x = some (k, n)) (hk : k < last) : parseR p last i (x :: y :: r) = (noPol, i, false) := by
  rw [parseR, h]
  simp only
  rw [if_pos hk]
theorem parse_step {p : PolM} {last i k : Int} {n : List Int} {x y : List UInt8} {r : List (List UInt8)} (h : wordsW x = some (k, n)) (hk : ¬ k < last) : parseR p last i (x :: y :: r) = parseR (addP p k n) k (i + 1) (y :: r) := by
  rw [parseR, h]
  simp only
  rw [if_neg hk]
theorem emp_ne (w : List UInt8) : (!((tx w).toList == (ByteArray.mk #[]).toList)) = decide (w ≠ []) := by
  show (!((tx w).toList == (tx []).toList)) = _
  rw [tx_beq]
  by_cases h : w = [] <;> simp [h]
theorem c_spec_l6Add_k0 (x : PolM) (n : List Int) (k : Int) (hk : k = 0) (hx : x.own.length ≤ 100000) : MutOK Tryz.prog 17 [.ptr 0 0, di k, .row 5] 6 (addMem x n) (.tup []) 7 [(0, .box 27 (rows4P 6 2 3 4)), (6, nestE (addP x k n).own), (2, rowLane (addP x k n).lns), (3, rowBell (addP x k n).bls), (4, rowSlot (addP x k n).pln)] := by
  subst hk
  exact c_spec_l6Add_0 x n hx
theorem c_spec_l6Add_k1 (x : PolM) (n : List Int) (k : Int) (hk : k = 1) (hx : x.lns.length ≤ 100000) (hn : n.length = 5) : MutOK Tryz.prog 17 [.ptr 0 0, di k, .row 5] 6 (addMem x n) (.tup []) 7 [(0, .box 27 (rows4P 1 6 3 4)), (1, nestE (addP x k n).own), (6, rowLane (addP x k n).lns), (3, rowBell (addP x k n).bls), (4, rowSlot (addP x k n).pln)] := by
  subst hk
  exact c_spec_l6Add_1 x n hx hn
theorem c_spec_l6Add_k2 (x : PolM) (n : List Int) (k : Int) (hk : k = 2) (hx : x.bls.length ≤ 100000) (hn : n.length = 2) : MutOK Tryz.prog 17 [.ptr 0 0, di k, .row 5] 6 (addMem x n) (.tup []) 7 [(0, .box 27 (rows4P 1 2 6 4)), (1, nestE (addP x k n).own), (2, rowLane (addP x k n).lns), (6, rowBell (addP x k n).bls), (4, rowSlot (addP x k n).pln)] := by
  subst hk
  exact c_spec_l6Add_2 x n hx hn
theorem c_spec_l6Add_k3 (x : PolM) (n : List Int) (k : Int) (hk : k = 3) (hx : x.pln.length ≤ 100000) (hn : n.length = 2) : MutOK Tryz.prog 17 [.ptr 0 0, di k, .row 5] 6 (addMem x n) (.tup []) 7 [(0, .box 27 (rows4P 1 2 3 6)), (1, nestE (addP x k n).own), (2, rowLane (addP x k n).lns), (3, rowBell (addP x k n).bls), (6, rowSlot (addP x k n).pln)] := by
  subst hk
  exact c_spec_l6Add_3 x n hx hn
set_option maxHeartbeats 6400000 in
theorem c_spec_ParsePolicy (t : List UInt8) (ht : t.length ≤ 1048576) : FnOK Tryz.prog 5 [dT t] (prR (parsePol polFault t)) := by
  have hsz := tx_size t
  obtain ⟨V, hV⟩ : ∃ V, V = parsePol polFault t := ⟨_, rfl⟩
  rw [← hV]
  unfold parsePol at hV
  by_cases h1000 : 1000 < t.length
  · rw [if_pos h1000] at hV
    subst hV
    refine fn_of lv5 Tryz.func5 rfl rfl (by kernel_rfl) rfl ?_
    refine bsplit_of_true (decide_eq_true (show ((tx t).size : Int) > 1000 by omega)) ?_
    exact ⟨⟨rfl, rfl, ⟨rfl, rfl⟩, ⟨rfl, rfl⟩, ⟨rfl, rfl⟩, ⟨rfl, rfl⟩, trivial⟩, rfl⟩
  rw [if_neg h1000] at hV
  have cc := c_spec_l6Cut t 10 (by omega)
  have hLl := cutL_len 10 t
  have hLm := cutL_memlen 10 t
  generalize cutL 10 t = L at *
  have hcw : ∀ i, i < L.length → FnOK Tryz.prog 16 [dT (L.getD i [])] (wordsR (wordsW (L.getD i []))) := fun i hi => c_spec_l6Words _ (by have := hLm _ (by rw [getD_at _ hi]; exact List.getElem_mem hi : L.getD i [] ∈ L); omega)
  obtain ⟨R, hR⟩ : ∃ R, R = parseR noPol 0 0 L := ⟨_, rfl⟩
  rw [← hR] at hV
  have hwl : IntKind.i64.wrap ((L.length : Int) - 1) = (L.length : Int) - 1 := wrap_i64 _ (by omega) (by omega)
  have hwn : (IntKind.i64.wrap ((L.length : Int) - 1)).toNat = L.length - 1 := by omega
  refine fn_of lv5 Tryz.func5 rfl rfl (by kernel_rfl) rfl ?_
  refine bsplit_of_false (decide_eq_false (show ¬ ((tx t).size : Int) > 1000 by omega)) ?_
  refine .inl ⟨_, _, rfl, cc, rfl, ?_⟩
  refine ⟨{ x : PolM × Nat × Int // x.2.1 + 1 ≤ L.length ∧ PolRead x.1 x.2.1 ∧ parseR x.1 x.2.2 (x.2.1 : Int) (L.drop x.2.1) = R }, fun x => ⟨frL [(2, .ptr 10 0), (3, .row 16), (4, .ptr 11 0), (5, di x.1.2.2), (6, di x.1.2.1)], hpL [(10, .box 29 nil6), (11, .box 27 (rows4P 12 13 14 15)), (12, nestE x.1.1.own), (13, rowLane x.1.1.lns), (14, rowBell x.1.1.bls), (15, rowSlot x.1.1.pln), (16, txE L)], 100, 0⟩, fun x => L.length - x.1.2.1, ⟨(noPol, 0, 0), by show 0 + 1 ≤ L.length; omega, PolRead.none, hR.symm⟩,
    Le.trans (nilBox (k := 12320) (i := 0) (t := 27) (cs := [.d (.v (.slice none 0 0)), .d (.v (.slice none 0 0)), .d (.v (.slice none 0 0)), .d (.v (.slice none 0 0))]) rfl rfl (nestE []) rfl rfl) (Le.trans (nilBox (k := 12320) (i := 1) (t := 27) (cs := [.row 24576, .d (.v (.slice none 0 0)), .d (.v (.slice none 0 0)), .d (.v (.slice none 0 0))]) rfl rfl (rowLane []) rfl rfl) (Le.trans (nilBox (k := 12320) (i := 2) (t := 27) (cs := [.row 24576, .row 24577, .d (.v (.slice none 0 0)), .d (.v (.slice none 0 0))]) rfl rfl (rowBell []) rfl rfl) (Le.trans (nilBox (k := 12320) (i := 3) (t := 27) (cs := [.row 24576, .row 24577, .row 24578, .d (.v (.slice none 0 0))]) rfl rfl (rowSlot []) rfl rfl) (le_of [(10, 0), (11, 12320), (12, 24576), (13, 24577), (14, 24578), (15, 24579), (16, 8224)] rfl rfl rfl rfl (tellHp_box rfl rfl ⟨rfl, rfl, rfl, rfl, rfl, rfl, trivial⟩ (tellHp_box rfl rfl ⟨rfl, rfl, rfl, rfl, trivial⟩ (tellHp_nest rfl rfl rfl (fun i hi => absurd hi (Nat.not_lt_zero _)) (tellHp_row rfl rfl rfl (fun j hj => rfl) (tellHp_row rfl rfl rfl (fun j hj => rfl) (tellHp_row rfl rfl rfl (fun j hj => rfl) (tellHp_row rfl rfl rfl (fun j hj => rfl) tellHp_nil)))))))
      (tellFr_ptr rfl rfl (tellFr_row rfl rfl (tellFr_ptr rfl rfl (tellFr_v rfl rfl (tellFr_v rfl rfl trivial))))))))), ?_⟩
  rintro ⟨⟨p, i, last⟩, hi, hp, hQ⟩
  simp only at hi hp hQ
  have htot := hp.tot
  have hwi : IntKind.i64.wrap ((i : Int) + 1) = ((i + 1 : Nat) : Int) := wrap_i64 (i + 1) (by omega) (by omega)
  by_cases h : i + 1 < L.length
  · obtain ⟨y, r, hd1, hd2⟩ := drop_two h
    rw [hd1] at hQ
    have cw := hcw i (by omega)
    cases hw : wordsW (L.getD i []) with
    | none =>
      rw [hw] at cw
      rw [parse_bad hw] at hQ
      subst hQ
      simp only at hV
      subst hV
      refine bsplit_of_true (decide_eq_true (show (i : Int) < IntKind.i64.wrap ((L.length : Int) - 1) by omega)) ?_
      refine ask_intro ⟨by show (0 : Int) ≤ (i : Int); omega, by show (i : Int) < (L.length : Int); omega⟩ ?_
      refine ask_intro (show i < L.length by omega) ?_
      refine .inl ⟨_, _, rfl, cw, rfl, ?_⟩
      repeat' (first | refine bsplit_true ?_ | refine bsplit_false ?_)
      exact ⟨⟨rfl, rfl, ⟨rfl, rfl⟩, ⟨rfl, rfl⟩, ⟨rfl, rfl⟩, ⟨rfl, rfl⟩, trivial⟩, rfl⟩
    | some kn =>
      obtain ⟨k, n⟩ := kn
      rw [hw] at cw
      obtain ⟨hk0, hk3, hwo, _, _⟩ := wordsW_some hw
      by_cases hlo : k < last
      · rw [parse_low hw hlo] at hQ
        subst hQ
        simp only at hV
        subst hV
        refine bsplit_of_true (decide_eq_true (show (i : Int) < IntKind.i64.wrap ((L.length : Int) - 1) by omega)) ?_
        refine ask_intro ⟨by show (0 : Int) ≤ (i : Int); omega, by show (i : Int) < (L.length : Int); omega⟩ ?_
        refine ask_intro (show i < L.length by omega) ?_
        refine .inl ⟨_, _, rfl, cw, rfl, ?_⟩
        repeat' (first | refine bsplit_true ?_ | refine bsplit_false ?_)
        refine bsplit_of_true (decide_eq_true hlo) ?_
        exact ⟨⟨rfl, rfl, ⟨rfl, rfl⟩, ⟨rfl, rfl⟩, ⟨rfl, rfl⟩, ⟨rfl, rfl⟩, trivial⟩, rfl⟩
      · rw [parse_step hw hlo, ← hd2] at hQ
        have hQ2 : parseR (addP p k n) k ((i + 1 : Nat) : Int) (L.drop (i + 1)) = R := by rw [← hQ]; congr 1
        have hp2 := hp.add hwo
        refine bsplit_of_true (decide_eq_true (show (i : Int) < IntKind.i64.wrap ((L.length : Int) - 1) by omega)) ?_
        refine ask_intro ⟨by show (0 : Int) ≤ (i : Int); omega, by show (i : Int) < (L.length : Int); omega⟩ ?_
        refine ask_intro (show i < L.length by omega) ?_
        refine .inl ⟨_, _, rfl, cw, rfl, ?_⟩
        repeat' (first | refine bsplit_true ?_ | refine bsplit_false ?_)
        refine bsplit_of_false (decide_eq_false hlo) ?_
        by_cases hk : k = 0
        · have ca := c_spec_l6Add_k0 p n k hk (by omega)
          refine .inr ⟨rfl, use_mut ⟨_, _, _, _, _, _, rfl, rfl, ca, rfl, ?_⟩⟩
          exact ⟨⟨(addP p k n, i + 1, k), by show i + 1 + 1 ≤ L.length; omega, hp2, hQ2⟩, le_of [(10, 10), (11, 11), (12, 16548), (13, 13), (14, 14), (15, 15), (16, 16)] rfl rfl rfl rfl (tellHp_box rfl rfl ⟨rfl, rfl, rfl, rfl, rfl, rfl, trivial⟩ (tellHp_box rfl rfl ⟨rfl, rfl, rfl, rfl, trivial⟩ (tellHp_nest rfl rfl rfl (fun i hi => ⟨rfl, fun j hj => rfl⟩) (tellHp_row rfl rfl rfl (fun j hj => rfl) (tellHp_row rfl rfl rfl (fun j hj => rfl) (tellHp_row rfl rfl rfl (fun j hj => rfl) (tellHp_row rfl rfl rfl (fun j hj => rfl) tellHp_nil)))))))
            (tellFr_ptr rfl rfl (tellFr_row rfl rfl (tellFr_ptr rfl rfl (tellFr_v rfl rfl (tellFr_v rfl (congrArg (Value.int .i64) hwi) trivial))))), by show L.length - (i + 1) < L.length - i; omega⟩
        by_cases hk : k = 1
        · have hn : n.length = 5 := by rw [hk] at hwo; simpa [wantOK] using hwo
          have ca := c_spec_l6Add_k1 p n k hk (by omega) hn
          refine .inr ⟨rfl, use_mut ⟨_, _, _, _, _, _, rfl, rfl, ca, rfl, ?_⟩⟩
          exact ⟨⟨(addP p k n, i + 1, k), by show i + 1 + 1 ≤ L.length; omega, hp2, hQ2⟩, le_of [(10, 10), (11, 11), (12, 12), (13, 16548), (14, 14), (15, 15), (16, 16)] rfl rfl rfl rfl (tellHp_box rfl rfl ⟨rfl, rfl, rfl, rfl, rfl, rfl, trivial⟩ (tellHp_box rfl rfl ⟨rfl, rfl, rfl, rfl, trivial⟩ (tellHp_nest rfl rfl rfl (fun i hi => ⟨rfl, fun j hj => rfl⟩) (tellHp_row rfl rfl rfl (fun j hj => rfl) (tellHp_row rfl rfl rfl (fun j hj => rfl) (tellHp_row rfl rfl rfl (fun j hj => rfl) (tellHp_row rfl rfl rfl (fun j hj => rfl) tellHp_nil)))))))
            (tellFr_ptr rfl rfl (tellFr_row rfl rfl (tellFr_ptr rfl rfl (tellFr_v rfl rfl (tellFr_v rfl (congrArg (Value.int .i64) hwi) trivial))))), by show L.length - (i + 1) < L.length - i; omega⟩
        by_cases hk : k = 2
        · have hn : n.length = 2 := by rw [hk] at hwo; simpa [wantOK] using hwo
          have ca := c_spec_l6Add_k2 p n k hk (by omega) hn
          refine .inr ⟨rfl, use_mut ⟨_, _, _, _, _, _, rfl, rfl, ca, rfl, ?_⟩⟩
          exact ⟨⟨(addP p k n, i + 1, k), by show i + 1 + 1 ≤ L.length; omega, hp2, hQ2⟩, le_of [(10, 10), (11, 11), (12, 12), (13, 13), (14, 16548), (15, 15), (16, 16)] rfl rfl rfl rfl (tellHp_box rfl rfl ⟨rfl, rfl, rfl, rfl, rfl, rfl, trivial⟩ (tellHp_box rfl rfl ⟨rfl, rfl, rfl, rfl, trivial⟩ (tellHp_nest rfl rfl rfl (fun i hi => ⟨rfl, fun j hj => rfl⟩) (tellHp_row rfl rfl rfl (fun j hj => rfl) (tellHp_row rfl rfl rfl (fun j hj => rfl) (tellHp_row rfl rfl rfl (fun j hj => rfl) (tellHp_row rfl rfl rfl (fun j hj => rfl) tellHp_nil)))))))
            (tellFr_ptr rfl rfl (tellFr_row rfl rfl (tellFr_ptr rfl rfl (tellFr_v rfl rfl (tellFr_v rfl (congrArg (Value.int .i64) hwi) trivial))))), by show L.length - (i + 1) < L.length - i; omega⟩
        have hn : n.length = 2 := by have hk : k = 3 := (by omega); rw [hk] at hwo; simpa [wantOK] using hwo
        have ca := c_spec_l6Add_k3 p n k (by omega) (by omega) hn
        refine .inr ⟨rfl, use_mut ⟨_, _, _, _, _, _, rfl, rfl, ca, rfl, ?_⟩⟩
        exact ⟨⟨(addP p k n, i + 1, k), by show i + 1 + 1 ≤ L.length; omega, hp2, hQ2⟩, le_of [(10, 10), (11, 11), (12, 12), (13, 13), (14, 14), (15, 16548), (16, 16)] rfl rfl rfl rfl (tellHp_box rfl rfl ⟨rfl, rfl, rfl, rfl, rfl, rfl, trivial⟩ (tellHp_box rfl rfl ⟨rfl, rfl, rfl, rfl, trivial⟩ (tellHp_nest rfl rfl rfl (fun i hi => ⟨rfl, fun j hj => rfl⟩) (tellHp_row rfl rfl rfl (fun j hj => rfl) (tellHp_row rfl rfl rfl (fun j hj => rfl) (tellHp_row rfl rfl rfl (fun j hj => rfl) (tellHp_row rfl rfl rfl (fun j hj => rfl) tellHp_nil)))))))
          (tellFr_ptr rfl rfl (tellFr_row rfl rfl (tellFr_ptr rfl rfl (tellFr_v rfl rfl (tellFr_v rfl (congrArg (Value.int .i64) hwi) trivial))))), by show L.length - (i + 1) < L.length - i; omega⟩
  · have hi1 : i + 1 = L.length := by omega
    rw [drop_one hi1] at hQ
    have hii : (IntKind.i64.wrap ((L.length : Int) - 1)).toNat = i := by omega
    have hiv : IntKind.i64.wrap ((L.length : Int) - 1) = (i : Int) := by omega
    have hs := hp.small (by omega)
    have cf := c_spec_l6Fault p hs
    have hem := emp_ne (L.getD (IntKind.i64.wrap ((L.length : Int) - 1)).toNat [])
    rw [hii] at hem
    by_cases he : L.getD i [] = []
    · have hb : (!((tx (L.getD (IntKind.i64.wrap ((L.length : Int) - 1)).toNat [])).toList == (ByteArray.mk #[]).toList)) = false := by rw [hii, hem]; exact decide_eq_false (fun e => e he)
      have hQ2 : R = (p, (i : Int), true) := by rw [← hQ, parseR, if_pos he]
      rw [hQ2] at hV
      simp only at hV
      refine bsplit_of_false (decide_eq_false (show ¬ (i : Int) < IntKind.i64.wrap ((L.length : Int) - 1) by omega)) ?_
      refine ask_intro ⟨by show 0 ≤ IntKind.i64.wrap ((L.length : Int) - 1); omega, by show IntKind.i64.wrap ((L.length : Int) - 1) < (L.length : Int); omega⟩ ?_
      refine ask_intro (show (IntKind.i64.wrap ((L.length : Int) - 1)).toNat < L.length by omega) ?_
      refine bsplit_of_false hb ?_
      refine .inl ⟨_, _, rfl, cf, rfl, ?_⟩
      by_cases hf : polFault p = 0
      · rw [if_pos hf] at hV
        subst hV
        refine bsplit_of_false (by simp [hf]) ?_
        exact ⟨⟨rfl, rfl, ⟨rfl, rfl, rfl, rfl, fun i hi => ⟨rfl, fun j hj => ⟨rfl, rfl⟩⟩⟩, ⟨rfl, rfl, rfl, fun i hi => ⟨rfl, rfl⟩⟩, ⟨rfl, rfl, rfl, fun i hi => ⟨rfl, rfl⟩⟩, ⟨rfl, rfl, rfl, fun i hi => ⟨rfl, rfl⟩⟩, trivial⟩, rfl⟩
      · rw [if_neg hf] at hV
        subst hV
        refine bsplit_of_true (by simp [hf]) ?_
        exact ⟨⟨rfl, rfl, ⟨rfl, rfl⟩, ⟨rfl, rfl⟩, ⟨rfl, rfl⟩, ⟨rfl, rfl⟩, trivial⟩, rfl⟩
    · have hb : (!((tx (L.getD (IntKind.i64.wrap ((L.length : Int) - 1)).toNat [])).toList == (ByteArray.mk #[]).toList)) = true := by rw [hii, hem]; exact decide_eq_true he
      have hQ2 : R = (noPol, (i : Int), false) := by rw [← hQ, parseR, if_neg he]
      rw [hQ2] at hV
      simp only at hV
      rw [← hiv] at hV
      subst hV
      refine bsplit_of_false (decide_eq_false (show ¬ (i : Int) < IntKind.i64.wrap ((L.length : Int) - 1) by omega)) ?_
      refine ask_intro ⟨by show 0 ≤ IntKind.i64.wrap ((L.length : Int) - 1); omega, by show IntKind.i64.wrap ((L.length : Int) - 1) < (L.length : Int); omega⟩ ?_
      refine ask_intro (show (IntKind.i64.wrap ((L.length : Int) - 1)).toNat < L.length by omega) ?_
      refine bsplit_of_true hb ?_
      exact ⟨⟨rfl, rfl, ⟨rfl, rfl⟩, ⟨rfl, rfl⟩, ⟨rfl, rfl⟩, ⟨rfl, rfl⟩, trivial⟩, rfl⟩
end Go.Proofs.YtojaakpnpdnbhaaGreatDoor.L

/- The library's functions that the reading of a policy calls: contracts. -/
set_option linter.unusedVariables false
set_option linter.unusedSimpArgs false
set_option maxRecDepth 100000
namespace Go.Proofs.YtojaakpnpdnbhaaGreatDoor.L
open Go.RowKit
abbrev vals (xs : List Value) : RV := .tup (xs.map fun x => .one (.v x))
theorem leaves_vals : ∀ xs : List Value, leavesT (xs.map fun x => RV1.one (.v x)) = xs.map RC.v
  | [] => rfl
  | x :: xs => by
    show [RC.v x] ++ leavesT (xs.map fun x => RV1.one (.v x)) = _
    rw [leaves_vals xs]
    rfl
theorem tvals_vals (us : List Value) : ∀ (xs : List Value) (j : Nat), us.drop j = xs → tvals us j (xs.map fun x => RV1.one (.v x)) = xs
  | [], j, _ => rfl
  | x :: xs, j, h => by
    have hj : j < us.length := by
      rcases Nat.lt_or_ge j us.length with h1 | h1
      · exact h1
      · rw [List.drop_of_length_le h1] at h; cases h
    rw [List.drop_eq_getElem_cons hj] at h
    obtain ⟨h1, h2⟩ := List.cons.inj h
    show us.getD j undef :: tvals us (j + 1) (xs.map fun x => RV1.one (.v x)) = _
    rw [tvals_vals us xs (j + 1) h2]
    simp [List.getD, hj, h1]
theorem rr_vals {W : World} {base : Nat} {F : Nat → Prop} (xs : List Value) : RR W base F (vals xs) (.tuple xs.toArray) := by
  refine ⟨xs, fun _ => False, ?_, ?_, fun b hb => hb.elim, fun j c hc => ?_, fun j c e g hc ho => ?_, fun i j c d e e' g hc hd ho => ?_⟩
  · show xs.length = (leavesT _).length
    rw [leaves_vals, List.length_map]
  · show _ = Value.tuple (tvals xs 0 _).toArray
    rw [tvals_vals xs xs 0 rfl]
  · have hc : (leavesT (xs.map fun x => RV1.one (.v x)))[j]? = some c := hc
    rw [leaves_vals, List.getElem?_map] at hc
    cases hx : xs[j]? with
    | none => rw [hx] at hc; cases hc
    | some x =>
      rw [hx] at hc
      cases hc
      show xs.getD j undef = x
      simp [List.getD, hx]
  · have hc : (leavesT (xs.map fun x => RV1.one (.v x)))[j]? = some c := hc
    rw [leaves_vals, List.getElem?_map] at hc
    cases hx : xs[j]? with
    | none => rw [hx] at hc; cases hc
    | some x => rw [hx] at hc; cases hc; simp [entOf] at ho
  · have hc : (leavesT (xs.map fun x => RV1.one (.v x)))[i]? = some c := hc
    rw [leaves_vals, List.getElem?_map] at hc
    cases hx : xs[i]? with
    | none => rw [hx] at hc; cases hc
    | some x => rw [hx] at hc; cases hc; simp [entOf] at ho
/-- a function that answers plain values and turns nothing of what was there -/
theorem FnS.of_vals {P : Program} {g : FuncId} {fn : Func} (hf : P.funcs[g]? = Option.some fn) (hb : fn.body.isSome = true) (hn : (fn.name == "runtime.NumGoroutine") = false) {lvs : List LV} {Q : List Value → Prop}
    (h : ∀ (W : World) (F : Nat → Prop) (vs : List Value), (∀ b, F b → b < W.heap.size) → GlOK F W → vs.length = lvs.length → (∀ j, j < lvs.length → VR (fun _ => none) W F (lvs.getD j .bad) (vs.getD j undef)) → Calls P g vs.toArray W fun e W' => ∃ xs, e = .returned (.tuple xs.toArray) ∧ Q xs ∧ Below W.heap.size W W') : FnS P g lvs (fun r => ∃ xs, Q xs ∧ r = vals xs) :=
  ⟨⟨fn, hf, hb, hn⟩, fun W F vs hG hl hv => (h W F vs hG.1 hG.2 hl hv).mono fun e W' ⟨xs, he, hQ, hB⟩ => ⟨_, _, he, hB, ⟨xs, hQ, rfl⟩, rr_vals xs⟩⟩
theorem vs1 {vs : List Value} (h : vs.length = 1) : ∃ a, vs = [a] := by
  match vs, h with
  | [a], _ => exact ⟨a, rfl⟩
theorem c_strings_Cut (t : List UInt8) (b : UInt8) (ht : t.length ≤ 1000000) : FnOK Tryz.prog 19 [dT t, dT [b]] (vals [.string (tx (Lib.cut t [b]).1), .string (tx (Lib.cut t [b]).2.1), .bool (Lib.cut t [b]).2.2]) := by
  refine FnS.one (FnS.imp (FnS.of_vals (Q := fun xs => xs = [.string (tx (Lib.cut t [b]).1), .string (tx (Lib.cut t [b]).2.1), .bool (Lib.cut t [b]).2.2]) Tryz.func19 (by kernel_rfl) (by kernel_rfl) fun W F vs hF hG hl hv => ?_) (fun r ⟨xs, hx, hr⟩ => by rw [hr, hx]))
  obtain ⟨a, c, rfl⟩ := vs2 hl
  have ha : a = .string (tx t) := VR.atomv (hv 0 (by simp))
  have hc : c = .string (tx [b]) := VR.atomv (hv 1 (by simp))
  subst ha hc
  obtain ⟨m, hm, m2, rfl⟩ := hG.one (g := 0) (b := false) (by unfold gcell; decide)
  have hz := tx_size t
  have h := Tryz.strings_Cut (tx t) (tx [b]) m2 W (by omega) hm
  rw [tx_list, tx_list] at h
  exact h.mono fun e W' ⟨he, n, hw⟩ => ⟨_, he, rfl, by subst hw; exact ⟨rfl, rfl, rfl, Nat.le_refl _, fun _ _ => rfl⟩⟩
theorem split_tx (t : List UInt8) (b : UInt8) : Lib.splitB (tx [b]) 0 (Lib.countB (tx t) (tx [b])) (tx t) = (cutL b t).map tx := by
  have h := Lib.splitB_data (tx [b]) 0 (Lib.countB (tx t) (tx [b])) (tx t)
  rw [tx_list, tx_list] at h
  have hc : Lib.countB (tx t) (tx [b]) = Lib.count t [b] := by
    show Lib.count (tx t).data.toList (tx [b]).data.toList = _
    rw [tx_list, tx_list]
  rw [hc] at h ⊢
  rw [splitK_cut b _ t rfl] at h
  rw [← h, List.map_map]
  conv => lhs; rw [← List.map_id (Lib.splitB _ _ _ _)]
  refine List.map_congr_left fun x _ => ?_
  show x = tx x.data.toList
  apply ByteArray.ext
  simp [tx]
theorem c_strings_Split (t : List UInt8) (b : UInt8) (ht : t.length ≤ 1000000) : FnOK Tryz.prog 36 [dT t, dT [b]] (.r (.one (oTxs (cutL b t)))) := by
  refine ⟨⟨_, Tryz.func36, by kernel_rfl, by kernel_rfl⟩, fun W F vs hG hl hv => ?_⟩
  obtain ⟨a, c, rfl⟩ := vs2 hl
  have ha : a = .string (tx t) := VR.atomv (hv 0 (by simp))
  have hc : c = .string (tx [b]) := VR.atomv (hv 1 (by simp))
  subst ha hc
  obtain ⟨m, hm, m2, rfl⟩ := hG.2.one (g := 0) (b := false) (by unfold gcell; decide)
  have hz := tx_size t
  have hcl := cutL_len b t
  have h := Tryz.strings_Split (tx t) (tx [b]) m2 W (by omega) hm (by rw [tx_size]; exact Nat.le_refl _)
  have hlen : Lib.countB (tx t) (tx [b]) + 1 = (cutL b t).length := by
    have h1 := Lib.splitB_all (tx [b]) (by rw [tx_size]; exact Nat.le_refl _) 0 _ (tx t) rfl
    rw [split_tx, List.length_map] at h1
    exact h1.symm
  rw [split_tx, hlen, List.map_map] at h
  refine h.mono fun e W' ⟨he, hw⟩ => ⟨_, he, ?_, ?_⟩
  · subst hw
    exact (Below.refl _ _).alloc (Nat.le_refl _) _
  · subst hw
    have hsz : (((cutL b t).map (Value.string ∘ tx)).toArray).size = (cutL b t).length * 1 := by simp
    have hrow : (W.alloc (.cells ((cutL b t).map (Value.string ∘ tx)).toArray 9)).ownsRow 0 9 1 (.slice (some ⟨W.heap.size, 0, none⟩) (cutL b t).length (cutL b t).length) (cutL b t).length _ := World.ownsRow_lit W _ _ (Nat.zero_le _) (by simp only [maxLen]; omega) hsz
    have hfoot : ∀ g, foot (W.alloc (.cells ((cutL b t).map (Value.string ∘ tx)).toArray 9)) (.slice (some ⟨W.heap.size, 0, none⟩) (cutL b t).length (cutL b t).length) (.row 9 1 (cutL b t).length (txsF (cutL b t))) g → g = W.heap.size := fun g hg => by
      have := foot_flat rfl hg
      simp [blk] at this
      exact this.symm
    refine ⟨[.slice (some ⟨W.heap.size, 0, none⟩) (cutL b t).length (cutL b t).length], fun _ => False, rfl, rfl, fun b hb => hb.elim, fun j c hc => ?_, fun j c e g hc ho => ?_, fun i j c d e e' g hc hd ho => ?_⟩
    · match j, hc with
      | 0, hc =>
        cases hc
        intro e he2
        cases he2
        refine ⟨⟨Nat.one_pos, _, _, rfl, hrow, fun u hu => ?_, fun i hi => rfl, fun i j hi hj => ?_⟩, fun g hg => ?_, ⟨_, _, _, rfl⟩⟩
        · simp at hu
          obtain ⟨x, _, rfl⟩ := hu
          rfl
        · obtain rfl : j = 0 := by omega
          have e1 : (((cutL b t).map (Value.string ∘ tx)).toArray.toList).getD (i * 1 + 0) undef = .string (tx ((cutL b t).getD i [])) := by
            simp [List.getD, hi]
          rw [e1]
          exact .v _
        · rw [hfoot g hg]
          exact ⟨Nat.le_refl _, by simp⟩
    · exact fun _ h => h
    · match i, j, hc, hd with
      | 0, 0, _, _ => exact fun _ _ _ => rfl
theorem tx_inj {a b : List UInt8} (h : tx a = tx b) : a = b := by
  have := congrArg (fun x : ByteArray => x.data.toList) h
  simpa [tx_list] using this
theorem idx_names (w : List UInt8) : Lib.idxOfS (wNames.map tx) (tx w) = kindW w := by
  show Lib.idxFromS [tx wOwn, tx wLane, tx wBell, tx wSlot] (tx w) 0 = _
  unfold kindW
  simp only [Lib.idxFromS]
  by_cases h0 : w = wOwn
  · subst h0; rw [if_pos rfl, if_pos rfl]; rfl
  rw [if_neg (fun e => h0 (tx_inj e).symm), if_neg h0]
  by_cases h1 : w = wLane
  · subst h1; rw [if_pos rfl, if_pos rfl]; rfl
  rw [if_neg (fun e => h1 (tx_inj e).symm), if_neg h1]
  by_cases h2 : w = wBell
  · subst h2; rw [if_pos rfl, if_pos rfl]; rfl
  rw [if_neg (fun e => h2 (tx_inj e).symm), if_neg h2]
  by_cases h3 : w = wSlot
  · subst h3; rw [if_pos rfl, if_pos rfl]; rfl
  rw [if_neg (fun e => h3 (tx_inj e).symm), if_neg h3]
theorem c_slices_Index (w : List UInt8) : FnOK Tryz.prog 37 [.d (txs wNames), dT w] (ri (kindW w)) :=
  FnOK.of_val Tryz.func37 (by kernel_rfl) (by kernel_rfl) fun W F vs hF hG hlen hv => by
    obtain ⟨a, c, rfl⟩ := vs2 hlen
    have hc : c = .string (tx w) := VR.atomv (hv 1 (by simp))
    subst hc
    have ha : Rd W F (.l wNames.length (txsF wNames)) a := VR.data (hv 0 (by simp))
    generalize hfn : (txsF wNames) = f at ha
    generalize hn : wNames.length = n at ha
    cases ha with
    | nil f A c => exact absurd hn (by decide)
    | l n f ad c sz vs h0 hc hI hs hz hll hvv h1 hr =>
      subst hfn hn
      obtain ⟨bk, o, sp⟩ := ad
      simp only at hs
      subst hs
      have hsz : sz = 1 := by rw [← hll 0 h0]; rfl
      subst hsz
      have hcell : ∀ j, j < (wNames.map tx).length → W.cell? ⟨bk, o + j, none⟩ = some (.string ((wNames.map tx).getD j ByteArray.empty)) := fun j hj => by
        have hj : j < wNames.length := by simpa using hj
        have h2 := hvv j 0 hj (by omega)
        have h3 := hr j 0 hj (by omega)
        have h4 : vs j 0 = .string (tx (wNames.getD j [])) := by
          have h5 : Rd W F (.v (.string (tx (wNames.getD j [])))) (vs j 0) := h3
          generalize vs j 0 = z at h5
          cases h5
          rfl
        rw [h4, add_mk, Nat.mul_one, Nat.add_zero] at h2
        rw [h2]
        simp [List.getD, hj]
      have hJ := Tryz.slices_Index_string bk o wNames.length c (wNames.map tx) (tx w) W (by simp) (by decide) hcell
      rw [List.take_of_length_le (by simp), idx_names] at hJ
      exact hJ.mono fun e W' ⟨he, hw⟩ => ⟨he, by subst hw; exact Below.refl _ _⟩
theorem c_strconv_Itoa (n : Int) (h0 : -9223372036854775808 ≤ n) (h1 : n ≤ 9223372036854775807) : FnOK Tryz.prog 40 [di n] (rT (Lib.itoa n)) :=
  FnOK.of_val Tryz.func40 (by kernel_rfl) (by kernel_rfl) fun W F vs hF hG hl hv => by
    obtain ⟨a, rfl⟩ := vs1 hl
    have ha : a = .int .i64 n := VR.atomv (hv 0 (by simp))
    subst ha
    have htab : Lib.TabIs Tryz.prog W "internal/strconv.uint64pow10" .u64 Lib.pow10Tab := tab_of_gl hG (by kernel_rfl) pow10_mem
    refine (Tryz.strconv_Itoa n h0 h1 W htab).mono fun e W' ⟨he, k, os, hw⟩ => ⟨he, ?_⟩
    subst hw
    exact below_grow W k os
theorem c_strconv_Atoi_ok (w : List UInt8) (hw : w.length ≤ 1000000) (v : Int) (h : Lib.atoiAll w = .ok v) : FnOK Tryz.prog 38 [dT w] (vals [.int .i64 v, .nilIface]) := by
  refine FnS.one (FnS.imp (FnS.of_vals (Q := fun xs => xs = [.int .i64 v, .nilIface]) Tryz.func38 (by kernel_rfl) (by kernel_rfl) fun W F vs hF hG hl hv => ?_) (fun r ⟨xs, hx, hr⟩ => by rw [hr, hx]))
  obtain ⟨a, rfl⟩ := vs1 hl
  have ha : a = .string (tx w) := VR.atomv (hv 0 (by simp))
  subst ha
  have hz := tx_size w
  exact (Tryz.strconv_Atoi_ok (tx w) (by omega) v (by rw [tx_list]; exact h) W).mono fun e W' ⟨he, hw⟩ => ⟨_, he, rfl, by
    rcases hw with rfl | ⟨t, rfl⟩
    · exact Below.refl _ _
    · exact Lib.bytesWorld_below _ _ _⟩
/-- how a number's reading ends -/
theorem num_cases (r : Lib.NumEnd Int) : (∃ v, r = .ok v) ∨ r = Lib.NumEnd.ofOption none ∨ r = .range := by
  cases r <;> first | exact .inl ⟨_, rfl⟩ | exact .inr (.inl rfl) | exact .inr (.inr rfl)
theorem c_strconv_Atoi_bad (w : List UInt8) (hw : w.length ≤ 1000000) (h : ∀ v, Lib.atoiAll w ≠ .ok v) : FnS Tryz.prog 38 [dT w] (fun r => ∃ (v : Int) (u : TypeId) (x : Value), r = vals [.int .i64 v, .iface u x]) := by
  refine FnS.imp (FnS.of_vals (Q := fun xs => ∃ (v : Int) (u : TypeId) (x : Value), xs = [.int .i64 v, .iface u x]) Tryz.func38 (by kernel_rfl) (by kernel_rfl) fun W F vs hF hG hl hv => ?_) (fun r ⟨xs, ⟨v, u, x, hx⟩, hr⟩ => ⟨v, u, x, by rw [hr, hx]⟩)
  obtain ⟨a, rfl⟩ := vs1 hl
  have ha : a = .string (tx w) := VR.atomv (hv 0 (by simp))
  subst ha
  have hz := tx_size w
  obtain ⟨ev1, hv1, k1⟩ := hG.one (g := 1) (b := true) (by unfold gcell; decide)
  obtain ⟨ev2, hv2, k2⟩ := hG.one (g := 2) (b := true) (by unfold gcell; decide)
  rcases num_cases (Lib.atoiAll w) with ⟨v, hh⟩ | hh | hh
  · exact absurd hh (h v)
  · exact (Tryz.strconv_Atoi_syntax (tx w) (by omega) (by rw [tx_list]; exact hh) ev1 W hv1 (.inr k1)).mono fun e W' ⟨N, he, _, _, hB⟩ => ⟨_, he, ⟨_, _, _, rfl⟩, hB⟩
  · exact (Tryz.strconv_Atoi_range (tx w) (by omega) (by rw [tx_list]; exact hh) ev2 W hv2 (.inr k2)).mono fun e W' ⟨N, he, _, _, hB⟩ => ⟨_, he, ⟨_, _, _, rfl⟩, hB⟩
end Go.Proofs.YtojaakpnpdnbhaaGreatDoor.L

/- The program's reading of a line: contracts. -/
set_option linter.unusedVariables false
set_option linter.unusedSimpArgs false
set_option maxRecDepth 100000
namespace Go.Proofs.YtojaakpnpdnbhaaGreatDoor.L
open Go.RowKit
theorem ift_err : IfT Tryz.prog 74 := show Tryz.prog.underlying 74 = _ by kernel_rfl
def lineM (t : List UInt8) : Int × List Int × Bool := if kindW ((cutL 32 t).getD 0 []) < 0 then (0, [], false) else match numsW ((cutL 32 t).drop 1) with
  | none => (0, [], false)
  | some n => (kindW ((cutL 32 t).getD 0 []), n, wantOK (kindW ((cutL 32 t).getD 0 [])) n.length)
theorem words_line (t : List UInt8) : wordsW t = if (lineM t).2.2 = true then some ((lineM t).1, (lineM t).2.1) else none := by
  unfold wordsW lineM
  cases numsW ((cutL 32 t).drop 1) with
  | none => simp
  | some n =>
    simp only
    split
    · simp
    · rfl
theorem numW_yes {w : List UInt8} {v : Int} (h : numW w = some v) : Lib.atoiAll w = .ok v ∧ inR v 0 999 = true ∧ Lib.itoa v = w := by
  obtain ⟨u, hu, rfl, rfl⟩ := numW_some h
  exact ⟨atoiAll_dd hu, inR_iff.2 ⟨by omega, by omega⟩, by rw [itoa_pos (by omega), Int.toNat_natCast]⟩
theorem numW_no {w : List UInt8} {v : Int} (h : numW w = none) (h2 : inR v 0 999 = true) : Lib.itoa v ≠ w := fun e => by
  have h3 := inR_iff.1 h2
  rw [itoa_pos h3.1] at e
  have := numW_dd (u := v.toNat) (by omega)
  rw [e, h] at this
  cases this
abbrev lineR (q : Int × List Int × Bool) : RV := .tup [.one (.v (.int .i64 q.1)), .one (oInts q.2.1), .one (.v (.bool q.2.2))]
theorem dropW (W : List (List UInt8)) (i : Nat) : txsF W (1 + i) = txsF (W.drop 1) i := by
  show [D.v (.string (tx (W.getD (1 + i) [])))] = [D.v (.string (tx ((W.drop 1).getD i [])))]
  simp [List.getD, List.getElem?_drop, Nat.add_comm]
theorem nums_fail2 (W : List (List UInt8)) {i : Nat} {n : List Int} (hl : i < W.length) (hn : numsW (W.take i) = some n) (hx : numW (W.getD i []) = none) : numsW W = none := by
  have e : numsW (W.take (i + 1)) = none := by rw [List.take_succ_eq_append_getElem hl, numsW_snoc, hn, ← getD_at [] hl, hx]
  have e2 := numsW_none e (W.drop (i + 1))
  rwa [List.take_append_drop] at e2
theorem nums_more2 (W : List (List UInt8)) {i : Nat} {n : List Int} {v : Int} (hl : i < W.length) (hn : numsW (W.take i) = some n) (hx : numW (W.getD i []) = some v) : numsW (W.take (i + 1)) = some (n ++ [v]) := by
  rw [List.take_succ_eq_append_getElem hl, numsW_snoc, hn, ← getD_at [] hl, hx]
set_option maxHeartbeats 3200000 in
theorem c_impl_policyLine_m (t : List UInt8) (ht : t.length ≤ 1000000) (hK : kindW ((cutL 32 t).getD 0 []) = (-1)) : FnOK Tryz.prog 20 [dT t] (lineR (lineM t)) := by
  have cc := c_strings_Split t 32 ht
  have hWl := cutL_len 32 t
  have hWm := cutL_memlen 32 t
  obtain ⟨V, hV⟩ : ∃ V, V = lineM t := ⟨_, rfl⟩
  rw [← hV]
  unfold lineM at hV
  generalize cutL 32 t = W at *
  have ci := (c_slices_Index (W.getD 0 [])).weak (xs := [.d (.l 4 (fun i => ([[D.v (.string ⟨#[111, 119, 110]⟩)], [D.v (.string ⟨#[108, 97, 110, 101]⟩)], [D.v (.string ⟨#[98, 101, 108, 108]⟩)], [D.v (.string ⟨#[115, 108, 111, 116]⟩)]] : List (List D)).getD i [])), dT (W.getD 0 [])]) ⟨LVLe.d (DLe.l rfl (fun i hi => names_row i hi)), LVLe.refl _, trivial⟩
  rw [hK] at ci hV
  refine fn_of lv20 Tryz.func20 rfl rfl (by kernel_rfl) rfl ?_
  refine .inl ⟨_, _, rfl, cc, rfl, ?_⟩
  refine ask_intro ⟨by decide, by show (0 : Int) < (W.length : Int); omega⟩ ?_
  refine ask_intro (show 0 < W.length by omega) ?_
  refine .inl ⟨_, _, rfl, ci, rfl, ?_⟩
  repeat' (first | refine bsplit_true ?_ | refine bsplit_false ?_)
  rw [if_pos (by decide)] at hV
  subst hV
  exact ⟨⟨rfl, ⟨rfl, rfl⟩, rfl, trivial⟩, rfl⟩
set_option maxHeartbeats 3200000 in
theorem c_impl_policyLine_0 (t : List UInt8) (ht : t.length ≤ 1000000) (hK : kindW ((cutL 32 t).getD 0 []) = 0) : FnOK Tryz.prog 20 [dT t] (lineR (lineM t)) := by
  have cc := c_strings_Split t 32 ht
  have hWl := cutL_len 32 t
  have hWm := cutL_memlen 32 t
  obtain ⟨V, hV⟩ : ∃ V, V = lineM t := ⟨_, rfl⟩
  rw [← hV]
  unfold lineM at hV
  generalize cutL 32 t = W at *
  have ci := (c_slices_Index (W.getD 0 [])).weak (xs := [.d (.l 4 (fun i => ([[D.v (.string ⟨#[111, 119, 110]⟩)], [D.v (.string ⟨#[108, 97, 110, 101]⟩)], [D.v (.string ⟨#[98, 101, 108, 108]⟩)], [D.v (.string ⟨#[115, 108, 111, 116]⟩)]] : List (List D)).getD i [])), dT (W.getD 0 [])]) ⟨LVLe.d (DLe.l rfl (fun i hi => names_row i hi)), LVLe.refl _, trivial⟩
  rw [hK] at ci hV
  refine fn_of lv20 Tryz.func20 rfl rfl (by kernel_rfl) rfl ?_
  refine .inl ⟨_, _, rfl, cc, rfl, ?_⟩
  refine ask_intro ⟨by decide, by show (0 : Int) < (W.length : Int); omega⟩ ?_
  refine ask_intro (show 0 < W.length by omega) ?_
  refine .inl ⟨_, _, rfl, ci, rfl, ?_⟩
  repeat' (first | refine bsplit_true ?_ | refine bsplit_false ?_)
  rw [if_neg (by decide)] at hV
  obtain ⟨U, hU⟩ : ∃ U, U = W.drop 1 := ⟨_, rfl⟩
  have hUl : U.length + 1 = W.length := by rw [hU, List.length_drop]; omega
  have hUm : ∀ i, i < U.length → (U.getD i []).length ≤ t.length := fun i hi => hWm _ (by rw [getD_at _ hi]; exact List.mem_of_mem_drop (i := 1) (by rw [← hU]; exact List.getElem_mem hi))
  have hUF : ∀ i, txsF W (1 + i) = txsF U i := fun i => by rw [hU]; exact dropW W i
  rw [← hU] at hV
  have hul2 : ((W.length : Int) - 1).toNat = U.length := by omega
  refine ask_intro ⟨by decide, by show (1 : Int) ≤ (W.length : Int); omega, by show (W.length : Int) ≤ (W.length : Int); omega, .inr (fun i hi => rfl)⟩ ?_
  refine ⟨{ x : Nat × List Int // x.1 ≤ U.length ∧ x.2.length = x.1 ∧ numsW (U.take x.1) = some x.2 }, fun x => ⟨frL [(6, di 0), (7, .row 13), (25, .d (txs U)), (26, di U.length), (27, di x.1.1)], hpL [(13, rowE x.1.2)], 100, 0⟩, fun x => U.length - x.1.1, ⟨(0, []), Nat.zero_le _, rfl, rfl⟩,
    le_of [(13, 16384)] rfl rfl rfl rfl (tellHp_row rfl rfl rfl (fun j hj => absurd hj (Nat.not_lt_zero _)) tellHp_nil) (tellFr_v rfl rfl (tellFr_row rfl rfl (tellFr_d rfl (DLe.l hul2 (fun i hi => hUF i)) (tellFr_v rfl (congrArg (Value.int .i64) (show ((((W.length : Int) - 1).toNat : Nat) : Int) = (U.length : Int) by omega)) (tellFr_v rfl rfl trivial))))), ?_⟩
  rintro ⟨⟨i, n⟩, hi, hln, hn⟩
  simp only at hi hln hn
  by_cases h : i < U.length
  · have hwi : IntKind.i64.wrap ((i : Int) + 1) = ((i + 1 : Nat) : Int) := wrap_i64 (i + 1) (by omega) (by omega)
    have hsn : ∀ v : Int, (n ++ [v]).length = n.length + 1 := fun v => by simp
    have hwl : (U.getD i []).length ≤ 1000000 := Nat.le_trans (hUm i h) ht
    refine bsplit_of_true (decide_eq_true (show (i : Int) < (U.length : Int) by omega)) ?_
    refine ask_intro ⟨by show (0 : Int) ≤ (i : Int); omega, by show (i : Int) < (U.length : Int); omega, rfl⟩ ?_
    cases hx : numW (U.getD i []) with
    | some v =>
      obtain ⟨y1, y2, y3⟩ := numW_yes hx
      have y4 := inR_iff.1 y2
      have ca := c_strconv_Atoi_ok (U.getD i []) hwl v y1
      have cw := c_impl_within v 0 999
      rw [y2] at cw
      have co := c_strconv_Itoa v (by omega) (by omega)
      rw [y3] at co
      refine .inl ⟨_, _, rfl, ca, rfl, ?_⟩
      refine ask_intro ift_err ?_
      repeat' (first | refine bsplit_true ?_ | refine bsplit_false ?_)
      refine .inl ⟨_, _, rfl, cw, rfl, ?_⟩
      repeat' (first | refine bsplit_true ?_ | refine bsplit_false ?_)
      refine .inl ⟨_, _, rfl, co, rfl, ?_⟩
      repeat' (first | refine bsplit_true ?_ | refine bsplit_false ?_)
      refine bsplit_of_false (show (!((tx (U.getD i [])).toList == (tx (U.getD i [])).toList)) = false by simp) ?_
      refine ask_intro ⟨by show (n.length + 1) * 8 ≤ 140737488355328; omega, by show n.length + 1 ≤ 9223372036854775807; omega, fun j hj => by obtain rfl : j = 0 := (by omega); rfl⟩ ?_
      exact ⟨⟨(i + 1, n ++ [v]), by show i + 1 ≤ U.length; omega, by show (n ++ [v]).length = i + 1; rw [hsn]; omega, nums_more2 U h hn hx⟩,
        le_of [(13, 16580)] rfl rfl rfl rfl (tellHp_row rfl rfl (hsn _).symm (fun j hj => upto_snoc n _ _ rfl j hj) tellHp_nil) (tellFr_v rfl rfl (tellFr_row rfl rfl (tellFr_d rfl (DLe.refl _) (tellFr_v rfl rfl (tellFr_v rfl (congrArg (Value.int .i64) hwi) trivial))))), by show U.length - (i + 1) < U.length - i; omega⟩
    | none =>
      rw [nums_fail2 U h hn hx] at hV
      subst hV
      by_cases hb : ∀ v, Lib.atoiAll (U.getD i []) ≠ .ok v
      · have ca := c_strconv_Atoi_bad (U.getD i []) hwl hb
        refine .inr ⟨rfl, use_fn ⟨_, _, rfl, ca, ?_⟩⟩
        rintro _ ⟨v, u, x, rfl⟩
        refine ⟨rfl, ?_⟩
        refine ask_intro ift_err ?_
        repeat' (first | refine bsplit_true ?_ | refine bsplit_false ?_)
        exact ⟨⟨rfl, ⟨rfl, rfl⟩, rfl, trivial⟩, rfl⟩
      · obtain ⟨v, hv⟩ : ∃ v, Lib.atoiAll (U.getD i []) = .ok v := by
          rcases num_cases (Lib.atoiAll (U.getD i [])) with hq | hq | hq
          · exact hq
          · exact absurd (fun v e => by rw [hq] at e; cases e) hb
          · exact absurd (fun v e => by rw [hq] at e; cases e) hb
        have ca := c_strconv_Atoi_ok (U.getD i []) hwl v hv
        have cw := c_impl_within v 0 999
        cases hin : inR v 0 999 with
        | false =>
          rw [hin] at cw
          refine .inl ⟨_, _, rfl, ca, rfl, ?_⟩
          refine ask_intro ift_err ?_
          repeat' (first | refine bsplit_true ?_ | refine bsplit_false ?_)
          refine .inl ⟨_, _, rfl, cw, rfl, ?_⟩
          repeat' (first | refine bsplit_true ?_ | refine bsplit_false ?_)
          exact ⟨⟨rfl, ⟨rfl, rfl⟩, rfl, trivial⟩, rfl⟩
        | true =>
          rw [hin] at cw
          have y4 := inR_iff.1 hin
          have co := c_strconv_Itoa v (by omega) (by omega)
          have hne := numW_no hx hin
          refine .inl ⟨_, _, rfl, ca, rfl, ?_⟩
          refine ask_intro ift_err ?_
          repeat' (first | refine bsplit_true ?_ | refine bsplit_false ?_)
          refine .inl ⟨_, _, rfl, cw, rfl, ?_⟩
          repeat' (first | refine bsplit_true ?_ | refine bsplit_false ?_)
          refine .inl ⟨_, _, rfl, co, rfl, ?_⟩
          repeat' (first | refine bsplit_true ?_ | refine bsplit_false ?_)
          refine bsplit_of_true (show (!((tx (Lib.itoa v)).toList == (tx (U.getD i [])).toList)) = true by rw [tx_beq, decide_eq_false hne]; rfl) ?_
          exact ⟨⟨rfl, ⟨rfl, rfl⟩, rfl, trivial⟩, rfl⟩
  · obtain rfl : i = U.length := by omega
    have hn2 : numsW U = some n := by rw [← hn, List.take_length]
    rw [hn2] at hV
    simp only at hV
    refine bsplit_of_false (decide_eq_false (show ¬ (U.length : Int) < (U.length : Int) by omega)) ?_
    refine ask_intro ⟨by decide, by decide⟩ ?_
    refine ask_intro (by decide) ?_
    refine ask_intro ⟨by decide, by decide⟩ ?_
    refine ask_intro (by decide) ?_
    refine chk_intro (by kernel_rfl) ?_
    by_cases hw1 : n.length < 1
    · rw [show wantOK 0 n.length = false by unfold wantOK; simp; omega] at hV
      subst hV
      refine bsplit_of_false (decide_eq_false (show ¬ (n.length : Int) ≥ 1 by omega)) ?_
      repeat' (first | refine bsplit_true ?_ | refine bsplit_false ?_)
      exact ⟨⟨rfl, ⟨rfl, rfl, rfl, fun j hj => ⟨rfl, rfl⟩⟩, rfl, trivial⟩, rfl⟩
    refine bsplit_of_true (decide_eq_true (show (n.length : Int) ≥ 1 by omega)) ?_
    repeat' (first | refine bsplit_true ?_ | refine bsplit_false ?_)
    by_cases hw9 : 9 < n.length
    · rw [show wantOK 0 n.length = false by unfold wantOK; simp; omega] at hV
      subst hV
      exact ⟨⟨rfl, ⟨rfl, rfl, rfl, fun j hj => ⟨rfl, rfl⟩⟩, congrArg Value.bool (decide_eq_false (show ¬ (n.length : Int) ≤ 9 by omega)), trivial⟩, rfl⟩
    · rw [show wantOK 0 n.length = true by unfold wantOK; simp; omega] at hV
      subst hV
      exact ⟨⟨rfl, ⟨rfl, rfl, rfl, fun j hj => ⟨rfl, rfl⟩⟩, congrArg Value.bool (decide_eq_true (show (n.length : Int) ≤ 9 by omega)), trivial⟩, rfl⟩
set_option maxHeartbeats 3200000 in
theorem c_impl_policyLine_1 (t : List UInt8) (ht : t.length ≤ 1000000) (hK : kindW ((cutL 32 t).getD 0 []) = 1) : FnOK Tryz.prog 20 [dT t] (lineR (lineM t)) := by
  have cc := c_strings_Split t 32 ht
  have hWl := cutL_len 32 t
  have hWm := cutL_memlen 32 t
  obtain ⟨V, hV⟩ : ∃ V, V = lineM t := ⟨_, rfl⟩
  rw [← hV]
  unfold lineM at hV
  generalize cutL 32 t = W at *
  have ci := (c_slices_Index (W.getD 0 [])).weak (xs := [.d (.l 4 (fun i => ([[D.v (.string ⟨#[111, 119, 110]⟩)], [D.v (.string ⟨#[108, 97, 110, 101]⟩)], [D.v (.string ⟨#[98, 101, 108, 108]⟩)], [D.v (.string ⟨#[115, 108, 111, 116]⟩)]] : List (List D)).getD i [])), dT (W.getD 0 [])]) ⟨LVLe.d (DLe.l rfl (fun i hi => names_row i hi)), LVLe.refl _, trivial⟩
  rw [hK] at ci hV
  refine fn_of lv20 Tryz.func20 rfl rfl (by kernel_rfl) rfl ?_
  refine .inl ⟨_, _, rfl, cc, rfl, ?_⟩
  refine ask_intro ⟨by decide, by show (0 : Int) < (W.length : Int); omega⟩ ?_
  refine ask_intro (show 0 < W.length by omega) ?_
  refine .inl ⟨_, _, rfl, ci, rfl, ?_⟩
  repeat' (first | refine bsplit_true ?_ | refine bsplit_false ?_)
  rw [if_neg (by decide)] at hV
  obtain ⟨U, hU⟩ : ∃ U, U = W.drop 1 := ⟨_, rfl⟩
  have hUl : U.length + 1 = W.length := by rw [hU, List.length_drop]; omega
  have hUm : ∀ i, i < U.length → (U.getD i []).length ≤ t.length := fun i hi => hWm _ (by rw [getD_at _ hi]; exact List.mem_of_mem_drop (i := 1) (by rw [← hU]; exact List.getElem_mem hi))
  have hUF : ∀ i, txsF W (1 + i) = txsF U i := fun i => by rw [hU]; exact dropW W i
  rw [← hU] at hV
  have hul2 : ((W.length : Int) - 1).toNat = U.length := by omega
  refine ask_intro ⟨by decide, by show (1 : Int) ≤ (W.length : Int); omega, by show (W.length : Int) ≤ (W.length : Int); omega, .inr (fun i hi => rfl)⟩ ?_
  refine ⟨{ x : Nat × List Int // x.1 ≤ U.length ∧ x.2.length = x.1 ∧ numsW (U.take x.1) = some x.2 }, fun x => ⟨frL [(6, di 1), (7, .row 13), (25, .d (txs U)), (26, di U.length), (27, di x.1.1)], hpL [(13, rowE x.1.2)], 100, 0⟩, fun x => U.length - x.1.1, ⟨(0, []), Nat.zero_le _, rfl, rfl⟩,
    le_of [(13, 16384)] rfl rfl rfl rfl (tellHp_row rfl rfl rfl (fun j hj => absurd hj (Nat.not_lt_zero _)) tellHp_nil) (tellFr_v rfl rfl (tellFr_row rfl rfl (tellFr_d rfl (DLe.l hul2 (fun i hi => hUF i)) (tellFr_v rfl (congrArg (Value.int .i64) (show ((((W.length : Int) - 1).toNat : Nat) : Int) = (U.length : Int) by omega)) (tellFr_v rfl rfl trivial))))), ?_⟩
  rintro ⟨⟨i, n⟩, hi, hln, hn⟩
  simp only at hi hln hn
  by_cases h : i < U.length
  · have hwi : IntKind.i64.wrap ((i : Int) + 1) = ((i + 1 : Nat) : Int) := wrap_i64 (i + 1) (by omega) (by omega)
    have hsn : ∀ v : Int, (n ++ [v]).length = n.length + 1 := fun v => by simp
    have hwl : (U.getD i []).length ≤ 1000000 := Nat.le_trans (hUm i h) ht
    refine bsplit_of_true (decide_eq_true (show (i : Int) < (U.length : Int) by omega)) ?_
    refine ask_intro ⟨by show (0 : Int) ≤ (i : Int); omega, by show (i : Int) < (U.length : Int); omega, rfl⟩ ?_
    cases hx : numW (U.getD i []) with
    | some v =>
      obtain ⟨y1, y2, y3⟩ := numW_yes hx
      have y4 := inR_iff.1 y2
      have ca := c_strconv_Atoi_ok (U.getD i []) hwl v y1
      have cw := c_impl_within v 0 999
      rw [y2] at cw
      have co := c_strconv_Itoa v (by omega) (by omega)
      rw [y3] at co
      refine .inl ⟨_, _, rfl, ca, rfl, ?_⟩
      refine ask_intro ift_err ?_
      repeat' (first | refine bsplit_true ?_ | refine bsplit_false ?_)
      refine .inl ⟨_, _, rfl, cw, rfl, ?_⟩
      repeat' (first | refine bsplit_true ?_ | refine bsplit_false ?_)
      refine .inl ⟨_, _, rfl, co, rfl, ?_⟩
      repeat' (first | refine bsplit_true ?_ | refine bsplit_false ?_)
      refine bsplit_of_false (show (!((tx (U.getD i [])).toList == (tx (U.getD i [])).toList)) = false by simp) ?_
      refine ask_intro ⟨by show (n.length + 1) * 8 ≤ 140737488355328; omega, by show n.length + 1 ≤ 9223372036854775807; omega, fun j hj => by obtain rfl : j = 0 := (by omega); rfl⟩ ?_
      exact ⟨⟨(i + 1, n ++ [v]), by show i + 1 ≤ U.length; omega, by show (n ++ [v]).length = i + 1; rw [hsn]; omega, nums_more2 U h hn hx⟩,
        le_of [(13, 16580)] rfl rfl rfl rfl (tellHp_row rfl rfl (hsn _).symm (fun j hj => upto_snoc n _ _ rfl j hj) tellHp_nil) (tellFr_v rfl rfl (tellFr_row rfl rfl (tellFr_d rfl (DLe.refl _) (tellFr_v rfl rfl (tellFr_v rfl (congrArg (Value.int .i64) hwi) trivial))))), by show U.length - (i + 1) < U.length - i; omega⟩
    | none =>
      rw [nums_fail2 U h hn hx] at hV
      subst hV
      by_cases hb : ∀ v, Lib.atoiAll (U.getD i []) ≠ .ok v
      · have ca := c_strconv_Atoi_bad (U.getD i []) hwl hb
        refine .inr ⟨rfl, use_fn ⟨_, _, rfl, ca, ?_⟩⟩
        rintro _ ⟨v, u, x, rfl⟩
        refine ⟨rfl, ?_⟩
        refine ask_intro ift_err ?_
        repeat' (first | refine bsplit_true ?_ | refine bsplit_false ?_)
        exact ⟨⟨rfl, ⟨rfl, rfl⟩, rfl, trivial⟩, rfl⟩
      · obtain ⟨v, hv⟩ : ∃ v, Lib.atoiAll (U.getD i []) = .ok v := by
          rcases num_cases (Lib.atoiAll (U.getD i [])) with hq | hq | hq
          · exact hq
          · exact absurd (fun v e => by rw [hq] at e; cases e) hb
          · exact absurd (fun v e => by rw [hq] at e; cases e) hb
        have ca := c_strconv_Atoi_ok (U.getD i []) hwl v hv
        have cw := c_impl_within v 0 999
        cases hin : inR v 0 999 with
        | false =>
          rw [hin] at cw
          refine .inl ⟨_, _, rfl, ca, rfl, ?_⟩
          refine ask_intro ift_err ?_
          repeat' (first | refine bsplit_true ?_ | refine bsplit_false ?_)
          refine .inl ⟨_, _, rfl, cw, rfl, ?_⟩
          repeat' (first | refine bsplit_true ?_ | refine bsplit_false ?_)
          exact ⟨⟨rfl, ⟨rfl, rfl⟩, rfl, trivial⟩, rfl⟩
        | true =>
          rw [hin] at cw
          have y4 := inR_iff.1 hin
          have co := c_strconv_Itoa v (by omega) (by omega)
          have hne := numW_no hx hin
          refine .inl ⟨_, _, rfl, ca, rfl, ?_⟩
          refine ask_intro ift_err ?_
          repeat' (first | refine bsplit_true ?_ | refine bsplit_false ?_)
          refine .inl ⟨_, _, rfl, cw, rfl, ?_⟩
          repeat' (first | refine bsplit_true ?_ | refine bsplit_false ?_)
          refine .inl ⟨_, _, rfl, co, rfl, ?_⟩
          repeat' (first | refine bsplit_true ?_ | refine bsplit_false ?_)
          refine bsplit_of_true (show (!((tx (Lib.itoa v)).toList == (tx (U.getD i [])).toList)) = true by rw [tx_beq, decide_eq_false hne]; rfl) ?_
          exact ⟨⟨rfl, ⟨rfl, rfl⟩, rfl, trivial⟩, rfl⟩
  · obtain rfl : i = U.length := by omega
    have hn2 : numsW U = some n := by rw [← hn, List.take_length]
    rw [hn2] at hV
    simp only at hV
    refine bsplit_of_false (decide_eq_false (show ¬ (U.length : Int) < (U.length : Int) by omega)) ?_
    refine ask_intro ⟨by decide, by decide⟩ ?_
    refine ask_intro (by decide) ?_
    refine ask_intro ⟨by decide, by decide⟩ ?_
    refine ask_intro (by decide) ?_
    refine chk_intro (by kernel_rfl) ?_
    by_cases hw1 : n.length < 5
    · rw [show wantOK 1 n.length = false by unfold wantOK; simp; omega] at hV
      subst hV
      refine bsplit_of_false (decide_eq_false (show ¬ (n.length : Int) ≥ 5 by omega)) ?_
      repeat' (first | refine bsplit_true ?_ | refine bsplit_false ?_)
      exact ⟨⟨rfl, ⟨rfl, rfl, rfl, fun j hj => ⟨rfl, rfl⟩⟩, rfl, trivial⟩, rfl⟩
    refine bsplit_of_true (decide_eq_true (show (n.length : Int) ≥ 5 by omega)) ?_
    repeat' (first | refine bsplit_true ?_ | refine bsplit_false ?_)
    by_cases hw9 : 5 < n.length
    · rw [show wantOK 1 n.length = false by unfold wantOK; simp; omega] at hV
      subst hV
      exact ⟨⟨rfl, ⟨rfl, rfl, rfl, fun j hj => ⟨rfl, rfl⟩⟩, congrArg Value.bool (decide_eq_false (show ¬ (n.length : Int) ≤ 5 by omega)), trivial⟩, rfl⟩
    · rw [show wantOK 1 n.length = true by unfold wantOK; simp; omega] at hV
      subst hV
      exact ⟨⟨rfl, ⟨rfl, rfl, rfl, fun j hj => ⟨rfl, rfl⟩⟩, congrArg Value.bool (decide_eq_true (show (n.length : Int) ≤ 5 by omega)), trivial⟩, rfl⟩
set_option maxHeartbeats 3200000 in
theorem c_impl_policyLine_2 (t : List UInt8) (ht : t.length ≤ 1000000) (hK : kindW ((cutL 32 t).getD 0 []) = 2) : FnOK Tryz.prog 20 [dT t] (lineR (lineM t)) := by
  have cc := c_strings_Split t 32 ht
  have hWl := cutL_len 32 t
  have hWm := cutL_memlen 32 t
  obtain ⟨V, hV⟩ : ∃ V, V = lineM t := ⟨_, rfl⟩
  rw [← hV]
  unfold lineM at hV
  generalize cutL 32 t = W at *
  have ci := (c_slices_Index (W.getD 0 [])).weak (xs := [.d (.l 4 (fun i => ([[D.v (.string ⟨#[111, 119, 110]⟩)], [D.v (.string ⟨#[108, 97, 110, 101]⟩)], [D.v (.string ⟨#[98, 101, 108, 108]⟩)], [D.v (.string ⟨#[115, 108, 111, 116]⟩)]] : List (List D)).getD i [])), dT (W.getD 0 [])]) ⟨LVLe.d (DLe.l rfl (fun i hi => names_row i hi)), LVLe.refl _, trivial⟩
  rw [hK] at ci hV
  refine fn_of lv20 Tryz.func20 rfl rfl (by kernel_rfl) rfl ?_
  refine .inl ⟨_, _, rfl, cc, rfl, ?_⟩
  refine ask_intro ⟨by decide, by show (0 : Int) < (W.length : Int); omega⟩ ?_
  refine ask_intro (show 0 < W.length by omega) ?_
  refine .inl ⟨_, _, rfl, ci, rfl, ?_⟩
  repeat' (first | refine bsplit_true ?_ | refine bsplit_false ?_)
  rw [if_neg (by decide)] at hV
  obtain ⟨U, hU⟩ : ∃ U, U = W.drop 1 := ⟨_, rfl⟩
  have hUl : U.length + 1 = W.length := by rw [hU, List.length_drop]; omega
  have hUm : ∀ i, i < U.length → (U.getD i []).length ≤ t.length := fun i hi => hWm _ (by rw [getD_at _ hi]; exact List.mem_of_mem_drop (i := 1) (by rw [← hU]; exact List.getElem_mem hi))
  have hUF : ∀ i, txsF W (1 + i) = txsF U i := fun i => by rw [hU]; exact dropW W i
  rw [← hU] at hV
  have hul2 : ((W.length : Int) - 1).toNat = U.length := by omega
  refine ask_intro ⟨by decide, by show (1 : Int) ≤ (W.length : Int); omega, by show (W.length : Int) ≤ (W.length : Int); omega, .inr (fun i hi => rfl)⟩ ?_
  refine ⟨{ x : Nat × List Int // x.1 ≤ U.length ∧ x.2.length = x.1 ∧ numsW (U.take x.1) = some x.2 }, fun x => ⟨frL [(6, di 2), (7, .row 13), (25, .d (txs U)), (26, di U.length), (27, di x.1.1)], hpL [(13, rowE x.1.2)], 100, 0⟩, fun x => U.length - x.1.1, ⟨(0, []), Nat.zero_le _, rfl, rfl⟩,
    le_of [(13, 16384)] rfl rfl rfl rfl (tellHp_row rfl rfl rfl (fun j hj => absurd hj (Nat.not_lt_zero _)) tellHp_nil) (tellFr_v rfl rfl (tellFr_row rfl rfl (tellFr_d rfl (DLe.l hul2 (fun i hi => hUF i)) (tellFr_v rfl (congrArg (Value.int .i64) (show ((((W.length : Int) - 1).toNat : Nat) : Int) = (U.length : Int) by omega)) (tellFr_v rfl rfl trivial))))), ?_⟩
  rintro ⟨⟨i, n⟩, hi, hln, hn⟩
  simp only at hi hln hn
  by_cases h : i < U.length
  · have hwi : IntKind.i64.wrap ((i : Int) + 1) = ((i + 1 : Nat) : Int) := wrap_i64 (i + 1) (by omega) (by omega)
    have hsn : ∀ v : Int, (n ++ [v]).length = n.length + 1 := fun v => by simp
    have hwl : (U.getD i []).length ≤ 1000000 := Nat.le_trans (hUm i h) ht
    refine bsplit_of_true (decide_eq_true (show (i : Int) < (U.length : Int) by omega)) ?_
    refine ask_intro ⟨by show (0 : Int) ≤ (i : Int); omega, by show (i : Int) < (U.length : Int); omega, rfl⟩ ?_
    cases hx : numW (U.getD i []) with
    | some v =>
      obtain ⟨y1, y2, y3⟩ := numW_yes hx
      have y4 := inR_iff.1 y2
      have ca := c_strconv_Atoi_ok (U.getD i []) hwl v y1
      have cw := c_impl_within v 0 999
      rw [y2] at cw
      have co := c_strconv_Itoa v (by omega) (by omega)
      rw [y3] at co
      refine .inl ⟨_, _, rfl, ca, rfl, ?_⟩
      refine ask_intro ift_err ?_
      repeat' (first | refine bsplit_true ?_ | refine bsplit_false ?_)
      refine .inl ⟨_, _, rfl, cw, rfl, ?_⟩
      repeat' (first | refine bsplit_true ?_ | refine bsplit_false ?_)
      refine .inl ⟨_, _, rfl, co, rfl, ?_⟩
      repeat' (first | refine bsplit_true ?_ | refine bsplit_false ?_)
      refine bsplit_of_false (show (!((tx (U.getD i [])).toList == (tx (U.getD i [])).toList)) = false by simp) ?_
      refine ask_intro ⟨by show (n.length + 1) * 8 ≤ 140737488355328; omega, by show n.length + 1 ≤ 9223372036854775807; omega, fun j hj => by obtain rfl : j = 0 := (by omega); rfl⟩ ?_
      exact ⟨⟨(i + 1, n ++ [v]), by show i + 1 ≤ U.length; omega, by show (n ++ [v]).length = i + 1; rw [hsn]; omega, nums_more2 U h hn hx⟩,
        le_of [(13, 16580)] rfl rfl rfl rfl (tellHp_row rfl rfl (hsn _).symm (fun j hj => upto_snoc n _ _ rfl j hj) tellHp_nil) (tellFr_v rfl rfl (tellFr_row rfl rfl (tellFr_d rfl (DLe.refl _) (tellFr_v rfl rfl (tellFr_v rfl (congrArg (Value.int .i64) hwi) trivial))))), by show U.length - (i + 1) < U.length - i; omega⟩
    | none =>
      rw [nums_fail2 U h hn hx] at hV
      subst hV
      by_cases hb : ∀ v, Lib.atoiAll (U.getD i []) ≠ .ok v
      · have ca := c_strconv_Atoi_bad (U.getD i []) hwl hb
        refine .inr ⟨rfl, use_fn ⟨_, _, rfl, ca, ?_⟩⟩
        rintro _ ⟨v, u, x, rfl⟩
        refine ⟨rfl, ?_⟩
        refine ask_intro ift_err ?_
        repeat' (first | refine bsplit_true ?_ | refine bsplit_false ?_)
        exact ⟨⟨rfl, ⟨rfl, rfl⟩, rfl, trivial⟩, rfl⟩
      · obtain ⟨v, hv⟩ : ∃ v, Lib.atoiAll (U.getD i []) = .ok v := by
          rcases num_cases (Lib.atoiAll (U.getD i [])) with hq | hq | hq
          · exact hq
          · exact absurd (fun v e => by rw [hq] at e; cases e) hb
          · exact absurd (fun v e => by rw [hq] at e; cases e) hb
        have ca := c_strconv_Atoi_ok (U.getD i []) hwl v hv
        have cw := c_impl_within v 0 999
        cases hin : inR v 0 999 with
        | false =>
          rw [hin] at cw
          refine .inl ⟨_, _, rfl, ca, rfl, ?_⟩
          refine ask_intro ift_err ?_
          repeat' (first | refine bsplit_true ?_ | refine bsplit_false ?_)
          refine .inl ⟨_, _, rfl, cw, rfl, ?_⟩
          repeat' (first | refine bsplit_true ?_ | refine bsplit_false ?_)
          exact ⟨⟨rfl, ⟨rfl, rfl⟩, rfl, trivial⟩, rfl⟩
        | true =>
          rw [hin] at cw
          have y4 := inR_iff.1 hin
          have co := c_strconv_Itoa v (by omega) (by omega)
          have hne := numW_no hx hin
          refine .inl ⟨_, _, rfl, ca, rfl, ?_⟩
          refine ask_intro ift_err ?_
          repeat' (first | refine bsplit_true ?_ | refine bsplit_false ?_)
          refine .inl ⟨_, _, rfl, cw, rfl, ?_⟩
          repeat' (first | refine bsplit_true ?_ | refine bsplit_false ?_)
          refine .inl ⟨_, _, rfl, co, rfl, ?_⟩
          repeat' (first | refine bsplit_true ?_ | refine bsplit_false ?_)
          refine bsplit_of_true (show (!((tx (Lib.itoa v)).toList == (tx (U.getD i [])).toList)) = true by rw [tx_beq, decide_eq_false hne]; rfl) ?_
          exact ⟨⟨rfl, ⟨rfl, rfl⟩, rfl, trivial⟩, rfl⟩
  · obtain rfl : i = U.length := by omega
    have hn2 : numsW U = some n := by rw [← hn, List.take_length]
    rw [hn2] at hV
    simp only at hV
    refine bsplit_of_false (decide_eq_false (show ¬ (U.length : Int) < (U.length : Int) by omega)) ?_
    refine ask_intro ⟨by decide, by decide⟩ ?_
    refine ask_intro (by decide) ?_
    refine ask_intro ⟨by decide, by decide⟩ ?_
    refine ask_intro (by decide) ?_
    refine chk_intro (by kernel_rfl) ?_
    by_cases hw1 : n.length < 2
    · rw [show wantOK 2 n.length = false by unfold wantOK; simp; omega] at hV
      subst hV
      refine bsplit_of_false (decide_eq_false (show ¬ (n.length : Int) ≥ 2 by omega)) ?_
      repeat' (first | refine bsplit_true ?_ | refine bsplit_false ?_)
      exact ⟨⟨rfl, ⟨rfl, rfl, rfl, fun j hj => ⟨rfl, rfl⟩⟩, rfl, trivial⟩, rfl⟩
    refine bsplit_of_true (decide_eq_true (show (n.length : Int) ≥ 2 by omega)) ?_
    repeat' (first | refine bsplit_true ?_ | refine bsplit_false ?_)
    by_cases hw9 : 2 < n.length
    · rw [show wantOK 2 n.length = false by unfold wantOK; simp; omega] at hV
      subst hV
      exact ⟨⟨rfl, ⟨rfl, rfl, rfl, fun j hj => ⟨rfl, rfl⟩⟩, congrArg Value.bool (decide_eq_false (show ¬ (n.length : Int) ≤ 2 by omega)), trivial⟩, rfl⟩
    · rw [show wantOK 2 n.length = true by unfold wantOK; simp; omega] at hV
      subst hV
      exact ⟨⟨rfl, ⟨rfl, rfl, rfl, fun j hj => ⟨rfl, rfl⟩⟩, congrArg Value.bool (decide_eq_true (show (n.length : Int) ≤ 2 by omega)), trivial⟩, rfl⟩
set_option maxHeartbeats 3200000 in
theorem c_impl_policyLine_3 (t : List UInt8) (ht : t.length ≤ 1000000) (hK : kindW ((cutL 32 t).getD 0 []) = 3) : FnOK Tryz.prog 20 [dT t] (lineR (lineM t)) := by
  have cc := c_strings_Split t 32 ht
  have hWl := cutL_len 32 t
  have hWm := cutL_memlen 32 t
  obtain ⟨V, hV⟩ : ∃ V, V = lineM t := ⟨_, rfl⟩
  rw [← hV]
  unfold lineM at hV
  generalize cutL 32 t = W at *
  have ci := (c_slices_Index (W.getD 0 [])).weak (xs := [.d (.l 4 (fun i => ([[D.v (.string ⟨#[111, 119, 110]⟩)], [D.v (.string ⟨#[108, 97, 110, 101]⟩)], [D.v (.string ⟨#[98, 101, 108, 108]⟩)], [D.v (.string ⟨#[115, 108, 111, 116]⟩)]] : List (List D)).getD i [])), dT (W.getD 0 [])]) ⟨LVLe.d (DLe.l rfl (fun i hi => names_row i hi)), LVLe.refl _, trivial⟩
  rw [hK] at ci hV
  refine fn_of lv20 Tryz.func20 rfl rfl (by kernel_rfl) rfl ?_
  refine .inl ⟨_, _, rfl, cc, rfl, ?_⟩
  refine ask_intro ⟨by decide, by show (0 : Int) < (W.length : Int); omega⟩ ?_
  refine ask_intro (show 0 < W.length by omega) ?_
  refine .inl ⟨_, _, rfl, ci, rfl, ?_⟩
  repeat' (first | refine bsplit_true ?_ | refine bsplit_false ?_)
  rw [if_neg (by decide)] at hV
  obtain ⟨U, hU⟩ : ∃ U, U = W.drop 1 := ⟨_, rfl⟩
  have hUl : U.length + 1 = W.length := by rw [hU, List.length_drop]; omega
  have hUm : ∀ i, i < U.length → (U.getD i []).length ≤ t.length := fun i hi => hWm _ (by rw [getD_at _ hi]; exact List.mem_of_mem_drop (i := 1) (by rw [← hU]; exact List.getElem_mem hi))
  have hUF : ∀ i, txsF W (1 + i) = txsF U i := fun i => by rw [hU]; exact dropW W i
  rw [← hU] at hV
  have hul2 : ((W.length : Int) - 1).toNat = U.length := by omega
  refine ask_intro ⟨by decide, by show (1 : Int) ≤ (W.length : Int); omega, by show (W.length : Int) ≤ (W.length : Int); omega, .inr (fun i hi => rfl)⟩ ?_
  refine ⟨{ x : Nat × List Int // x.1 ≤ U.length ∧ x.2.length = x.1 ∧ numsW (U.take x.1) = some x.2 }, fun x => ⟨frL [(6, di 3), (7, .row 13), (25, .d (txs U)), (26, di U.length), (27, di x.1.1)], hpL [(13, rowE x.1.2)], 100, 0⟩, fun x => U.length - x.1.1, ⟨(0, []), Nat.zero_le _, rfl, rfl⟩,
    le_of [(13, 16384)] rfl rfl rfl rfl (tellHp_row rfl rfl rfl (fun j hj => absurd hj (Nat.not_lt_zero _)) tellHp_nil) (tellFr_v rfl rfl (tellFr_row rfl rfl (tellFr_d rfl (DLe.l hul2 (fun i hi => hUF i)) (tellFr_v rfl (congrArg (Value.int .i64) (show ((((W.length : Int) - 1).toNat : Nat) : Int) = (U.length : Int) by omega)) (tellFr_v rfl rfl trivial))))), ?_⟩
  rintro ⟨⟨i, n⟩, hi, hln, hn⟩
  simp only at hi hln hn
  by_cases h : i < U.length
  · have hwi : IntKind.i64.wrap ((i : Int) + 1) = ((i + 1 : Nat) : Int) := wrap_i64 (i + 1) (by omega) (by omega)
    have hsn : ∀ v : Int, (n ++ [v]).length = n.length + 1 := fun v => by simp
    have hwl : (U.getD i []).length ≤ 1000000 := Nat.le_trans (hUm i h) ht
    refine bsplit_of_true (decide_eq_true (show (i : Int) < (U.length : Int) by omega)) ?_
    refine ask_intro ⟨by show (0 : Int) ≤ (i : Int); omega, by show (i : Int) < (U.length : Int); omega, rfl⟩ ?_
    cases hx : numW (U.getD i []) with
    | some v =>
      obtain ⟨y1, y2, y3⟩ := numW_yes hx
      have y4 := inR_iff.1 y2
      have ca := c_strconv_Atoi_ok (U.getD i []) hwl v y1
      have cw := c_impl_within v 0 999
      rw [y2] at cw
      have co := c_strconv_Itoa v (by omega) (by omega)
      rw [y3] at co
      refine .inl ⟨_, _, rfl, ca, rfl, ?_⟩
      refine ask_intro ift_err ?_
      repeat' (first | refine bsplit_true ?_ | refine bsplit_false ?_)
      refine .inl ⟨_, _, rfl, cw, rfl, ?_⟩
      repeat' (first | refine bsplit_true ?_ | refine bsplit_false ?_)
      refine .inl ⟨_, _, rfl, co, rfl, ?_⟩
      repeat' (first | refine bsplit_true ?_ | refine bsplit_false ?_)
      refine bsplit_of_false (show (!((tx (U.getD i [])).toList == (tx (U.getD i [])).toList)) = false by simp) ?_
      refine ask_intro ⟨by show (n.length + 1) * 8 ≤ 140737488355328; omega, by show n.length + 1 ≤ 9223372036854775807; omega, fun j hj => by obtain rfl : j = 0 := (by omega); rfl⟩ ?_
      exact ⟨⟨(i + 1, n ++ [v]), by show i + 1 ≤ U.length; omega, by show (n ++ [v]).length = i + 1; rw [hsn]; omega, nums_more2 U h hn hx⟩,
        le_of [(13, 16580)] rfl rfl rfl rfl (tellHp_row rfl rfl (hsn _).symm (fun j hj => upto_snoc n _ _ rfl j hj) tellHp_nil) (tellFr_v rfl rfl (tellFr_row rfl rfl (tellFr_d rfl (DLe.refl _) (tellFr_v rfl rfl (tellFr_v rfl (congrArg (Value.int .i64) hwi) trivial))))), by show U.length - (i + 1) < U.length - i; omega⟩
    | none =>
      rw [nums_fail2 U h hn hx] at hV
      subst hV
      by_cases hb : ∀ v, Lib.atoiAll (U.getD i []) ≠ .ok v
      · have ca := c_strconv_Atoi_bad (U.getD i []) hwl hb
        refine .inr ⟨rfl, use_fn ⟨_, _, rfl, ca, ?_⟩⟩
        rintro _ ⟨v, u, x, rfl⟩
        refine ⟨rfl, ?_⟩
        refine ask_intro ift_err ?_
        repeat' (first | refine bsplit_true ?_ | refine bsplit_false ?_)
        exact ⟨⟨rfl, ⟨rfl, rfl⟩, rfl, trivial⟩, rfl⟩
      · obtain ⟨v, hv⟩ : ∃ v, Lib.atoiAll (U.getD i []) = .ok v := by
          rcases num_cases (Lib.atoiAll (U.getD i [])) with hq | hq | hq
          · exact hq
          · exact absurd (fun v e => by rw [hq] at e; cases e) hb
          · exact absurd (fun v e => by rw [hq] at e; cases e) hb
        have ca := c_strconv_Atoi_ok (U.getD i []) hwl v hv
        have cw := c_impl_within v 0 999
        cases hin : inR v 0 999 with
        | false =>
          rw [hin] at cw
          refine .inl ⟨_, _, rfl, ca, rfl, ?_⟩
          refine ask_intro ift_err ?_
          repeat' (first | refine bsplit_true ?_ | refine bsplit_false ?_)
          refine .inl ⟨_, _, rfl, cw, rfl, ?_⟩
          repeat' (first | refine bsplit_true ?_ | refine bsplit_false ?_)
          exact ⟨⟨rfl, ⟨rfl, rfl⟩, rfl, trivial⟩, rfl⟩
        | true =>
          rw [hin] at cw
          have y4 := inR_iff.1 hin
          have co := c_strconv_Itoa v (by omega) (by omega)
          have hne := numW_no hx hin
          refine .inl ⟨_, _, rfl, ca, rfl, ?_⟩
          refine ask_intro ift_err ?_
          repeat' (first | refine bsplit_true ?_ | refine bsplit_false ?_)
          refine .inl ⟨_, _, rfl, cw, rfl, ?_⟩
          repeat' (first | refine bsplit_true ?_ | refine bsplit_false ?_)
          refine .inl ⟨_, _, rfl, co, rfl, ?_⟩
          repeat' (first | refine bsplit_true ?_ | refine bsplit_false ?_)
          refine bsplit_of_true (show (!((tx (Lib.itoa v)).toList == (tx (U.getD i [])).toList)) = true by rw [tx_beq, decide_eq_false hne]; rfl) ?_
          exact ⟨⟨rfl, ⟨rfl, rfl⟩, rfl, trivial⟩, rfl⟩
  · obtain rfl : i = U.length := by omega
    have hn2 : numsW U = some n := by rw [← hn, List.take_length]
    rw [hn2] at hV
    simp only at hV
    refine bsplit_of_false (decide_eq_false (show ¬ (U.length : Int) < (U.length : Int) by omega)) ?_
    refine ask_intro ⟨by decide, by decide⟩ ?_
    refine ask_intro (by decide) ?_
    refine ask_intro ⟨by decide, by decide⟩ ?_
    refine ask_intro (by decide) ?_
    refine chk_intro (by kernel_rfl) ?_
    by_cases hw1 : n.length < 2
    · rw [show wantOK 3 n.length = false by unfold wantOK; simp; omega] at hV
      subst hV
      refine bsplit_of_false (decide_eq_false (show ¬ (n.length : Int) ≥ 2 by omega)) ?_
      repeat' (first | refine bsplit_true ?_ | refine bsplit_false ?_)
      exact ⟨⟨rfl, ⟨rfl, rfl, rfl, fun j hj => ⟨rfl, rfl⟩⟩, rfl, trivial⟩, rfl⟩
    refine bsplit_of_true (decide_eq_true (show (n.length : Int) ≥ 2 by omega)) ?_
    repeat' (first | refine bsplit_true ?_ | refine bsplit_false ?_)
    by_cases hw9 : 2 < n.length
    · rw [show wantOK 3 n.length = false by unfold wantOK; simp; omega] at hV
      subst hV
      exact ⟨⟨rfl, ⟨rfl, rfl, rfl, fun j hj => ⟨rfl, rfl⟩⟩, congrArg Value.bool (decide_eq_false (show ¬ (n.length : Int) ≤ 2 by omega)), trivial⟩, rfl⟩
    · rw [show wantOK 3 n.length = true by unfold wantOK; simp; omega] at hV
      subst hV
      exact ⟨⟨rfl, ⟨rfl, rfl, rfl, fun j hj => ⟨rfl, rfl⟩⟩, congrArg Value.bool (decide_eq_true (show (n.length : Int) ≤ 2 by omega)), trivial⟩, rfl⟩
theorem c_impl_policyLine (t : List UInt8) (ht : t.length ≤ 1000000) : FnOK Tryz.prog 20 [dT t] (lineR (lineM t)) := by
  have h := kindW_in ((cutL 32 t).getD 0 [])
  by_cases hm : kindW ((cutL 32 t).getD 0 []) = -1
  · exact c_impl_policyLine_m t ht hm
  by_cases h0 : kindW ((cutL 32 t).getD 0 []) = 0
  · exact c_impl_policyLine_0 t ht h0
  by_cases h1 : kindW ((cutL 32 t).getD 0 []) = 1
  · exact c_impl_policyLine_1 t ht h1
  by_cases h2 : kindW ((cutL 32 t).getD 0 []) = 2
  · exact c_impl_policyLine_2 t ht h2
  exact c_impl_policyLine_3 t ht (by omega)
end Go.Proofs.YtojaakpnpdnbhaaGreatDoor.L

/- The program's ParsePolicy: a contract. -/
set_option linter.unusedVariables false
set_option linter.unusedSimpArgs false
set_option maxRecDepth 100000
namespace Go.Proofs.YtojaakpnpdnbhaaGreatDoor.L
open Go.RowKit
theorem cut_cons (b : UInt8) (s : List UInt8) : ∃ y r, cutL b s = y :: r := by
  cases h : cutL b s with
  | nil => have := (cutL_len b s).1; rw [h] at this; simp at this
  | cons y r => exact ⟨y, r, rfl⟩
set_option maxHeartbeats 6400000 in
theorem c_impl_ParsePolicy (t : List UInt8) (ht : t.length ≤ 1048576) : FnOK Tryz.prog 6 [dT t] (prR (parsePol polFault t)) := by
  have hsz := tx_size t
  obtain ⟨V, hV⟩ : ∃ V, V = parsePol polFault t := ⟨_, rfl⟩
  rw [← hV]
  unfold parsePol at hV
  by_cases h1000 : 1000 < t.length
  · rw [if_pos h1000] at hV
    subst hV
    refine fn_of lv6 Tryz.func6 rfl rfl (by kernel_rfl) rfl ?_
    refine bsplit_of_true (decide_eq_true (show ((tx t).size : Int) > 1000 by omega)) ?_
    exact ⟨⟨rfl, rfl, ⟨rfl, rfl⟩, ⟨rfl, rfl⟩, ⟨rfl, rfl⟩, ⟨rfl, rfl⟩, trivial⟩, rfl⟩
  rw [if_neg h1000] at hV
  obtain ⟨R, hR⟩ : ∃ R, R = parseR noPol 0 0 (cutL 10 t) := ⟨_, rfl⟩
  rw [← hR] at hV
  refine fn_of lv6 Tryz.func6 rfl rfl (by kernel_rfl) rfl ?_
  refine bsplit_of_false (decide_eq_false (show ¬ ((tx t).size : Int) > 1000 by omega)) ?_
  refine ⟨{ x : PolM × List UInt8 × Nat × Int // x.2.2.1 + x.2.1.length ≤ 1000 ∧ PolRead x.1 x.2.2.1 ∧ parseR x.1 x.2.2.2 (x.2.2.1 : Int) (cutL 10 x.2.1) = R }, fun x => ⟨frL [(0, dT x.1.2.1), (2, .ptr 10 0), (3, .ptr 11 0), (4, di x.1.2.2.1), (5, di x.1.2.2.2)], hpL [(10, .box 29 nil6), (11, .box 27 (rows4P 12 13 14 15)), (12, nestE x.1.1.own), (13, rowLane x.1.1.lns), (14, rowBell x.1.1.bls), (15, rowSlot x.1.1.pln)], 100, 0⟩, fun x => x.1.2.1.length, ⟨(noPol, t, 0, 0), by show 0 + t.length ≤ 1000; omega, PolRead.none, hR.symm⟩,
    Le.trans (nilBox (k := 8224) (i := 0) (t := 27) (cs := [.d (.v (.slice none 0 0)), .d (.v (.slice none 0 0)), .d (.v (.slice none 0 0)), .d (.v (.slice none 0 0))]) rfl rfl (nestE []) rfl rfl) (Le.trans (nilBox (k := 8224) (i := 1) (t := 27) (cs := [.row 12288, .d (.v (.slice none 0 0)), .d (.v (.slice none 0 0)), .d (.v (.slice none 0 0))]) rfl rfl (rowLane []) rfl rfl) (Le.trans (nilBox (k := 8224) (i := 2) (t := 27) (cs := [.row 12288, .row 12289, .d (.v (.slice none 0 0)), .d (.v (.slice none 0 0))]) rfl rfl (rowBell []) rfl rfl) (Le.trans (nilBox (k := 8224) (i := 3) (t := 27) (cs := [.row 12288, .row 12289, .row 12290, .d (.v (.slice none 0 0))]) rfl rfl (rowSlot []) rfl rfl) (le_of [(10, 0), (11, 8224), (12, 12288), (13, 12289), (14, 12290), (15, 12291)] rfl rfl rfl rfl (tellHp_box rfl rfl ⟨rfl, rfl, rfl, rfl, rfl, rfl, trivial⟩ (tellHp_box rfl rfl ⟨rfl, rfl, rfl, rfl, trivial⟩ (tellHp_nest rfl rfl rfl (fun i hi => absurd hi (Nat.not_lt_zero _)) (tellHp_row rfl rfl rfl (fun j hj => rfl) (tellHp_row rfl rfl rfl (fun j hj => rfl) (tellHp_row rfl rfl rfl (fun j hj => rfl) tellHp_nil))))))
      (tellFr_v rfl rfl (tellFr_ptr rfl rfl (tellFr_ptr rfl rfl (tellFr_v rfl rfl (tellFr_v rfl rfl trivial))))))))), ?_⟩
  rintro ⟨⟨p, s, i, last⟩, hi, hp, hQ⟩
  simp only at hi hp hQ
  have htot := hp.tot
  have hwi : IntKind.i64.wrap ((i : Int) + 1) = ((i + 1 : Nat) : Int) := wrap_i64 (i + 1) (by omega) (by omega)
  have hem := emp_ne s
  by_cases hs0 : s = []
  · have hQ2 : R = (p, (i : Int), true) := by rw [← hQ, hs0]; rfl
    rw [hQ2] at hV
    simp only at hV
    have hsm := hp.small (by omega)
    have cf := c_impl_PolicyFault p hsm
    refine bsplit_of_false (hem.trans (decide_eq_false (fun e => e hs0))) ?_
    refine .inl ⟨_, _, rfl, cf, rfl, ?_⟩
    by_cases hf : polFault p = 0
    · rw [if_pos hf] at hV
      subst hV
      refine bsplit_of_false (by simp [hf]) ?_
      exact ⟨⟨rfl, rfl, ⟨rfl, rfl, rfl, rfl, fun i hi => ⟨rfl, fun j hj => ⟨rfl, rfl⟩⟩⟩, ⟨rfl, rfl, rfl, fun i hi => ⟨rfl, rfl⟩⟩, ⟨rfl, rfl, rfl, fun i hi => ⟨rfl, rfl⟩⟩, ⟨rfl, rfl, rfl, fun i hi => ⟨rfl, rfl⟩⟩, trivial⟩, rfl⟩
    · rw [if_neg hf] at hV
      subst hV
      refine bsplit_of_true (by simp [hf]) ?_
      exact ⟨⟨rfl, rfl, ⟨rfl, rfl⟩, ⟨rfl, rfl⟩, ⟨rfl, rfl⟩, ⟨rfl, rfl⟩, trivial⟩, rfl⟩
  have hnb := hem.trans (decide_eq_true hs0)
  have ccut := c_strings_Cut s 10 (by omega)
  rcases cutL_cases 10 s with hfr | ⟨a, r, hsr, hfr⟩
  · rw [cut_miss 10 s hfr] at ccut
    rw [cutL_end hfr] at hQ
    have hQ2 : R = (noPol, (i : Int), false) := by rw [← hQ, parseR, if_neg hs0]
    rw [hQ2] at hV
    simp only at hV
    subst hV
    have cl := c_impl_policyLine s (by omega)
    refine bsplit_of_true hnb ?_
    refine .inl ⟨_, _, rfl, ccut, rfl, ?_⟩
    refine .inl ⟨_, _, rfl, cl, rfl, ?_⟩
    repeat' (first | refine bsplit_true ?_ | refine bsplit_false ?_)
    exact ⟨⟨rfl, rfl, ⟨rfl, rfl⟩, ⟨rfl, rfl⟩, ⟨rfl, rfl⟩, ⟨rfl, rfl⟩, trivial⟩, rfl⟩
  have hsl : s.length = a.length + r.length + 1 := by rw [hsr]; simp; omega
  have hc2 : Lib.cut s [10] = (a, r, true) := by rw [hsr]; exact cut_hit 10 a r hfr
  rw [hc2] at ccut
  obtain ⟨y, r', hcr⟩ := cut_cons 10 r
  have hcs : cutL 10 s = a :: cutL 10 r := by rw [hsr]; exact cutL_hit hfr
  rw [hcs, hcr] at hQ
  have cl := c_impl_policyLine a (by omega)
  have hwl := words_line a
  generalize lineM a = q at *
  obtain ⟨k, n, ok⟩ := q
  cases ok with
  | false =>
    rw [parse_bad (by rw [hwl]; rfl)] at hQ
    subst hQ
    simp only at hV
    subst hV
    refine bsplit_of_true hnb ?_
    refine .inl ⟨_, _, rfl, ccut, rfl, ?_⟩
    refine .inl ⟨_, _, rfl, cl, rfl, ?_⟩
    repeat' (first | refine bsplit_true ?_ | refine bsplit_false ?_)
    exact ⟨⟨rfl, rfl, ⟨rfl, rfl⟩, ⟨rfl, rfl⟩, ⟨rfl, rfl⟩, ⟨rfl, rfl⟩, trivial⟩, rfl⟩
  | true =>
    have hw : wordsW a = some (k, n) := by rw [hwl]; rfl
    obtain ⟨hk0, hk3, hwo, _, _⟩ := wordsW_some hw
    by_cases hlo : k < last
    · rw [parse_low hw hlo] at hQ
      subst hQ
      simp only at hV
      subst hV
      refine bsplit_of_true hnb ?_
      refine .inl ⟨_, _, rfl, ccut, rfl, ?_⟩
      refine .inl ⟨_, _, rfl, cl, rfl, ?_⟩
      repeat' (first | refine bsplit_true ?_ | refine bsplit_false ?_)
      refine bsplit_of_true (decide_eq_true hlo) ?_
      exact ⟨⟨rfl, rfl, ⟨rfl, rfl⟩, ⟨rfl, rfl⟩, ⟨rfl, rfl⟩, ⟨rfl, rfl⟩, trivial⟩, rfl⟩
    rw [parse_step hw hlo, ← hcr] at hQ
    have hQ2 : parseR (addP p k n) k ((i + 1 : Nat) : Int) (cutL 10 r) = R := by rw [← hQ]; congr 1
    have hp2 := hp.add hwo
    have hB : (decide (k < last)) = false := decide_eq_false hlo
    by_cases hk : k = 0
    · have ha : addP p k n = ⟨p.own ++ [n], p.lns, p.bls, p.pln⟩ := by unfold addP; rw [if_pos hk]
      rw [ha] at hp2 hQ2
      have hsl2 : (p.own ++ [n]).length = p.own.length + 1 := by simp
      refine bsplit_of_true hnb ?_
      refine .inl ⟨_, _, rfl, ccut, rfl, ?_⟩
      refine .inl ⟨_, _, rfl, cl, rfl, ?_⟩
      repeat' (first | refine bsplit_true ?_ | refine bsplit_false ?_)
      refine bsplit_of_false hB ?_
      refine bsplit_of_true (show (k == 0) = true by rw [hk]; rfl) ?_
      refine ask_intro trivial ?_
      refine ask_intro ⟨by show (p.own.length + 1) * 24 ≤ 140737488355328; omega, by show p.own.length + 1 ≤ 9223372036854775807; omega, trivial⟩ ?_
      refine ⟨⟨(⟨p.own ++ [n], p.lns, p.bls, p.pln⟩, r, i + 1, k), by show i + 1 + r.length ≤ 1000; omega, hp2, hQ2⟩, le_of [(10, 10), (11, 11), (12, 24804), (13, 13), (14, 14), (15, 15)] rfl rfl rfl rfl (tellHp_box rfl rfl ⟨rfl, rfl, rfl, rfl, rfl, rfl, trivial⟩ (tellHp_box rfl rfl ⟨rfl, rfl, rfl, rfl, trivial⟩ (tellHp_hole rfl rfl rfl rfl rfl hsl2.symm ⟨?_, fun j hj => ?_⟩ (fun j hj hne => ⟨?_, fun u hu => ?_⟩) (tellHp_row rfl rfl rfl (fun j hj => rfl) (tellHp_row rfl rfl rfl (fun j hj => rfl) (tellHp_row rfl rfl rfl (fun j hj => rfl) tellHp_nil))))))
        (tellFr_v rfl rfl (tellFr_ptr rfl rfl (tellFr_ptr rfl rfl (tellFr_v rfl (congrArg (Value.int .i64) hwi) (tellFr_v rfl rfl trivial))))), by show r.length < s.length; omega⟩
      · show n.length = ((p.own ++ [n]).getD p.own.length []).length
        rw [app_lastP]
      · show intsF n j = intsF ((p.own ++ [n]).getD p.own.length []) j
        rw [app_lastP]
      · have hj : j < p.own.length + 1 := hj
        have hne : j ≠ p.own.length := hne
        show (if j < p.own.length then lenF p.own j else 0) = _
        rw [if_pos (by omega)]
        exact (app_inP p.own n j (by omega)).1
      · have hj : j < p.own.length + 1 := hj
        have hne : j ≠ p.own.length := hne
        show (if j < p.own.length then inF p.own j else fun _ => []) u = _
        rw [if_pos (by omega)]
        exact (app_inP p.own n j (by omega)).2 u
    by_cases hk : k = 1
    · have ha : addP p k n = ⟨p.own, p.lns ++ [(⟨n.getD 0 0, n.getD 1 0, n.getD 2 0, n.getD 3 0, n.getD 4 0⟩ : LaneM)], p.bls, p.pln⟩ := by unfold addP; rw [if_neg (by omega), if_pos hk]
      rw [ha] at hp2 hQ2
      have hn : n.length = 5 := by have hk : k = 1 := (by omega); rw [hk] at hwo; simpa [wantOK] using hwo
      have hsl2 : (p.lns ++ [(⟨n.getD 0 0, n.getD 1 0, n.getD 2 0, n.getD 3 0, n.getD 4 0⟩ : LaneM)]).length = p.lns.length + 1 := by simp
      have hz := app_gen (⟨0, 0, 0, 0, 0⟩ : LaneM) laneD p.lns ⟨n.getD 0 0, n.getD 1 0, n.getD 2 0, n.getD 3 0, n.getD 4 0⟩ (fun i => ([laneD ⟨n.getD 0 0, n.getD 1 0, n.getD 2 0, n.getD 3 0, n.getD 4 0⟩] : List (List D)).getD i []) rfl
      refine bsplit_of_true hnb ?_
      refine .inl ⟨_, _, rfl, ccut, rfl, ?_⟩
      refine .inl ⟨_, _, rfl, cl, rfl, ?_⟩
      repeat' (first | refine bsplit_true ?_ | refine bsplit_false ?_)
      refine bsplit_of_false hB ?_
      refine bsplit_of_false (show (k == 0) = false by rw [beq_eq_false_iff_ne]; omega) ?_
      refine bsplit_of_true (show (k == 1) = true by rw [hk]; rfl) ?_
      refine ask_intro ⟨by decide, by show (0 : Int) < (n.length : Int); omega⟩ ?_
      refine ask_intro (show 0 < n.length by omega) ?_
      refine ask_intro ⟨by decide, by show (1 : Int) < (n.length : Int); omega⟩ ?_
      refine ask_intro (show 1 < n.length by omega) ?_
      refine ask_intro ⟨by decide, by show (2 : Int) < (n.length : Int); omega⟩ ?_
      refine ask_intro (show 2 < n.length by omega) ?_
      refine ask_intro ⟨by decide, by show (3 : Int) < (n.length : Int); omega⟩ ?_
      refine ask_intro (show 3 < n.length by omega) ?_
      refine ask_intro ⟨by decide, by show (4 : Int) < (n.length : Int); omega⟩ ?_
      refine ask_intro (show 4 < n.length by omega) ?_
      refine ask_intro ⟨by show (p.lns.length + 1) * 40 ≤ 140737488355328; omega, by show p.lns.length + 1 ≤ 9223372036854775807; omega, fun j hj => by obtain rfl : j = 0 := (by omega); rfl⟩ ?_
      refine chk_intro (by kernel_rfl) ?_
      exact ⟨⟨(⟨p.own, p.lns ++ [(⟨n.getD 0 0, n.getD 1 0, n.getD 2 0, n.getD 3 0, n.getD 4 0⟩ : LaneM)], p.bls, p.pln⟩, r, i + 1, k), by show i + 1 + r.length ≤ 1000; omega, hp2, hQ2⟩, le_of [(10, 10), (11, 11), (12, 12), (13, 29380), (14, 14), (15, 15)] rfl rfl rfl rfl (tellHp_box rfl rfl ⟨rfl, rfl, rfl, rfl, rfl, rfl, trivial⟩ (tellHp_box rfl rfl ⟨rfl, rfl, rfl, rfl, trivial⟩ (tellHp_nest rfl rfl rfl (fun i hi => ⟨rfl, fun j hj => rfl⟩) (tellHp_row rfl rfl hsl2.symm (fun j hj => hz j hj) (tellHp_row rfl rfl rfl (fun j hj => rfl) (tellHp_row rfl rfl rfl (fun j hj => rfl) tellHp_nil))))))
        (tellFr_v rfl rfl (tellFr_ptr rfl rfl (tellFr_ptr rfl rfl (tellFr_v rfl (congrArg (Value.int .i64) hwi) (tellFr_v rfl rfl trivial))))), by show r.length < s.length; omega⟩
    by_cases hk : k = 2
    · have ha : addP p k n = ⟨p.own, p.lns, p.bls ++ [(⟨n.getD 0 0, n.getD 1 0⟩ : BellM)], p.pln⟩ := by unfold addP; rw [if_neg (by omega), if_neg (by omega), if_pos hk]
      rw [ha] at hp2 hQ2
      have hn : n.length = 2 := by have hk : k = 2 := (by omega); rw [hk] at hwo; simpa [wantOK] using hwo
      have hsl2 : (p.bls ++ [(⟨n.getD 0 0, n.getD 1 0⟩ : BellM)]).length = p.bls.length + 1 := by simp
      have hz := app_gen (⟨0, 0⟩ : BellM) bellD p.bls ⟨n.getD 0 0, n.getD 1 0⟩ (fun i => ([bellD ⟨n.getD 0 0, n.getD 1 0⟩] : List (List D)).getD i []) rfl
      refine bsplit_of_true hnb ?_
      refine .inl ⟨_, _, rfl, ccut, rfl, ?_⟩
      refine .inl ⟨_, _, rfl, cl, rfl, ?_⟩
      repeat' (first | refine bsplit_true ?_ | refine bsplit_false ?_)
      refine bsplit_of_false hB ?_
      refine bsplit_of_false (show (k == 0) = false by rw [beq_eq_false_iff_ne]; omega) ?_
      refine bsplit_of_false (show (k == 1) = false by rw [beq_eq_false_iff_ne]; omega) ?_
      refine bsplit_of_true (show (k == 2) = true by rw [hk]; rfl) ?_
      refine ask_intro ⟨by decide, by show (0 : Int) < (n.length : Int); omega⟩ ?_
      refine ask_intro (show 0 < n.length by omega) ?_
      refine ask_intro ⟨by decide, by show (1 : Int) < (n.length : Int); omega⟩ ?_
      refine ask_intro (show 1 < n.length by omega) ?_
      refine ask_intro ⟨by show (p.bls.length + 1) * 16 ≤ 140737488355328; omega, by show p.bls.length + 1 ≤ 9223372036854775807; omega, fun j hj => by obtain rfl : j = 0 := (by omega); rfl⟩ ?_
      refine chk_intro (by kernel_rfl) ?_
      exact ⟨⟨(⟨p.own, p.lns, p.bls ++ [(⟨n.getD 0 0, n.getD 1 0⟩ : BellM)], p.pln⟩, r, i + 1, k), by show i + 1 + r.length ≤ 1000; omega, hp2, hQ2⟩, le_of [(10, 10), (11, 11), (12, 12), (13, 13), (14, 33188), (15, 15)] rfl rfl rfl rfl (tellHp_box rfl rfl ⟨rfl, rfl, rfl, rfl, rfl, rfl, trivial⟩ (tellHp_box rfl rfl ⟨rfl, rfl, rfl, rfl, trivial⟩ (tellHp_nest rfl rfl rfl (fun i hi => ⟨rfl, fun j hj => rfl⟩) (tellHp_row rfl rfl rfl (fun j hj => rfl) (tellHp_row rfl rfl hsl2.symm (fun j hj => hz j hj) (tellHp_row rfl rfl rfl (fun j hj => rfl) tellHp_nil))))))
        (tellFr_v rfl rfl (tellFr_ptr rfl rfl (tellFr_ptr rfl rfl (tellFr_v rfl (congrArg (Value.int .i64) hwi) (tellFr_v rfl rfl trivial))))), by show r.length < s.length; omega⟩
    have ha : addP p k n = ⟨p.own, p.lns, p.bls, p.pln ++ [(⟨n.getD 0 0, n.getD 1 0⟩ : SlotM)]⟩ := by unfold addP; rw [if_neg (by omega), if_neg (by omega), if_neg (by omega)]
    rw [ha] at hp2 hQ2
    have hn : n.length = 2 := by have hk : k = 3 := (by omega); rw [hk] at hwo; simpa [wantOK] using hwo
    have hsl2 : (p.pln ++ [(⟨n.getD 0 0, n.getD 1 0⟩ : SlotM)]).length = p.pln.length + 1 := by simp
    have hz := app_gen (⟨0, 0⟩ : SlotM) slotD p.pln ⟨n.getD 0 0, n.getD 1 0⟩ (fun i => ([slotD ⟨n.getD 0 0, n.getD 1 0⟩] : List (List D)).getD i []) rfl
    refine bsplit_of_true hnb ?_
    refine .inl ⟨_, _, rfl, ccut, rfl, ?_⟩
    refine .inl ⟨_, _, rfl, cl, rfl, ?_⟩
    repeat' (first | refine bsplit_true ?_ | refine bsplit_false ?_)
    refine bsplit_of_false hB ?_
    refine bsplit_of_false (show (k == 0) = false by rw [beq_eq_false_iff_ne]; omega) ?_
    refine bsplit_of_false (show (k == 1) = false by rw [beq_eq_false_iff_ne]; omega) ?_
    refine bsplit_of_false (show (k == 2) = false by rw [beq_eq_false_iff_ne]; omega) ?_
    refine ask_intro ⟨by decide, by show (0 : Int) < (n.length : Int); omega⟩ ?_
    refine ask_intro (show 0 < n.length by omega) ?_
    refine ask_intro ⟨by decide, by show (1 : Int) < (n.length : Int); omega⟩ ?_
    refine ask_intro (show 1 < n.length by omega) ?_
    refine ask_intro ⟨by show (p.pln.length + 1) * 16 ≤ 140737488355328; omega, by show p.pln.length + 1 ≤ 9223372036854775807; omega, fun j hj => by obtain rfl : j = 0 := (by omega); rfl⟩ ?_
    refine chk_intro (by kernel_rfl) ?_
    exact ⟨⟨(⟨p.own, p.lns, p.bls, p.pln ++ [(⟨n.getD 0 0, n.getD 1 0⟩ : SlotM)]⟩, r, i + 1, k), by show i + 1 + r.length ≤ 1000; omega, hp2, hQ2⟩, le_of [(10, 10), (11, 11), (12, 12), (13, 13), (14, 14), (15, 33188)] rfl rfl rfl rfl (tellHp_box rfl rfl ⟨rfl, rfl, rfl, rfl, rfl, rfl, trivial⟩ (tellHp_box rfl rfl ⟨rfl, rfl, rfl, rfl, trivial⟩ (tellHp_nest rfl rfl rfl (fun i hi => ⟨rfl, fun j hj => rfl⟩) (tellHp_row rfl rfl rfl (fun j hj => rfl) (tellHp_row rfl rfl rfl (fun j hj => rfl) (tellHp_row rfl rfl hsl2.symm (fun j hj => hz j hj) tellHp_nil))))))
      (tellFr_v rfl rfl (tellFr_ptr rfl rfl (tellFr_ptr rfl rfl (tellFr_v rfl (congrArg (Value.int .i64) hwi) (tellFr_v rfl rfl trivial))))), by show r.length < s.length; omega⟩
end Go.Proofs.YtojaakpnpdnbhaaGreatDoor.L

/- What the law functions compute that hold policies: contracts. -/
set_option linter.unusedVariables false
set_option linter.unusedSimpArgs false
set_option maxRecDepth 100000
namespace Go.Proofs.YtojaakpnpdnbhaaGreatDoor.L
open Go.RowKit
abbrev lanesM (l : List LaneM) (k : Int) : D := .l l.length (laneMk k)
theorem c_laws_heldLaneS (l : List LaneM) (k : Int) (hl : l.length ≤ 109951162777) (hk : 0 ≤ k) (hk2 : k ≤ 1099511627776) : FnOK Tryz.prog 54 [.d (lanesM l k), di k] (ri (k + 5 * l.length)) := by
  refine fn_of lv54 Tryz.func54 rfl rfl (by kernel_rfl) rfl ?_
  refine ⟨{ i : Nat // i ≤ l.length }, fun i => ⟨frL [(0, .d (lanesM l k)), (1, di (k + 5 * (i.1 : Int))), (5, di i.1)], hpL [], 0, 0⟩, fun i => l.length - i.1, ⟨0, by omega⟩,
    le_of [] rfl rfl rfl rfl trivial (tellFr_d rfl (DLe.refl _) (tellFr_v rfl (congrArg (Value.int .i64) (show k = k + 5 * ((0 : Nat) : Int) by omega)) (tellFr_v rfl rfl trivial))), ?_⟩
  rintro ⟨i, hi⟩
  refine bsplit_intro (fun h => ?_) (fun h => ?_)
  · have h : i < l.length := by simp at h; exact h
    have w1 : IntKind.i64.wrap (k + 5 * (i : Int) + 1) = k + 5 * (i : Int) + 1 := (wrap_i64 _ (by omega) (by omega)).trans (by omega)
    have w2 : IntKind.i64.wrap (k + 5 * (i : Int) + 1 + 1) = k + 5 * (i : Int) + 2 := (wrap_i64 _ (by omega) (by omega)).trans (by omega)
    have w3 : IntKind.i64.wrap (k + 5 * (i : Int) + 2 + 1) = k + 5 * (i : Int) + 3 := (wrap_i64 _ (by omega) (by omega)).trans (by omega)
    have w4 : IntKind.i64.wrap (k + 5 * (i : Int) + 3 + 1) = k + 5 * (i : Int) + 4 := (wrap_i64 _ (by omega) (by omega)).trans (by omega)
    have wn : IntKind.i64.wrap (IntKind.i64.wrap (IntKind.i64.wrap (IntKind.i64.wrap (IntKind.i64.wrap (k + 5 * (i : Int) + 1) + 1) + 1) + 1) + 1) = k + 5 * ((i + 1 : Nat) : Int) := by rw [w1, w2, w3, w4, wrap_i64 _ (by omega) (by omega)]; omega
    refine ask_intro ⟨by omega, by show (i : Int) < (l.length : Int); omega, rfl⟩ ?_
    refine bsplit_of_false (show (k + 5 * (i : Int) != k + 5 * (i : Int)) = false by simp) ?_
    refine ask_intro ⟨by omega, by show (i : Int) < (l.length : Int); omega, rfl⟩ ?_
    refine bsplit_of_false (show (k + 5 * (i : Int) + 1 != IntKind.i64.wrap (k + 5 * (i : Int) + 1)) = false by rw [w1]; simp) ?_
    refine ask_intro ⟨by omega, by show (i : Int) < (l.length : Int); omega, rfl⟩ ?_
    refine bsplit_of_false (show (k + 5 * (i : Int) + 2 != IntKind.i64.wrap (IntKind.i64.wrap (k + 5 * (i : Int) + 1) + 1)) = false by rw [w1, w2]; simp) ?_
    refine ask_intro ⟨by omega, by show (i : Int) < (l.length : Int); omega, rfl⟩ ?_
    refine bsplit_of_false (show (k + 5 * (i : Int) + 3 != IntKind.i64.wrap (IntKind.i64.wrap (IntKind.i64.wrap (k + 5 * (i : Int) + 1) + 1) + 1)) = false by rw [w1, w2, w3]; simp) ?_
    refine ask_intro ⟨by omega, by show (i : Int) < (l.length : Int); omega, rfl⟩ ?_
    refine bsplit_of_false (show (k + 5 * (i : Int) + 4 != IntKind.i64.wrap (IntKind.i64.wrap (IntKind.i64.wrap (IntKind.i64.wrap (k + 5 * (i : Int) + 1) + 1) + 1) + 1)) = false by rw [w1, w2, w3, w4]; simp) ?_
    exact ⟨⟨i + 1, by omega⟩, le_of [] rfl rfl rfl rfl trivial (tellFr_d rfl (DLe.refl _) (tellFr_v rfl (congrArg (Value.int .i64) wn) (tellFr_v rfl (congrArg (Value.int .i64) (wrap_i64 (i + 1) (by omega) (by omega) : IntKind.i64.wrap ((i : Int) + 1) = ((i + 1 : Nat) : Int))) trivial))), by show l.length - (i + 1) < l.length - i; omega⟩
  · simp at h
    have e : i = l.length := by omega
    subst e
    exact ⟨⟨rfl, trivial⟩, rfl⟩
abbrev bellsM (l : List BellM) (k : Int) : D := .l l.length (bellMk k)
theorem c_laws_heldBellS (l : List BellM) (k : Int) (hl : l.length ≤ 109951162777) (hk : 0 ≤ k) (hk2 : k ≤ 1099511627776) : FnOK Tryz.prog 55 [.d (bellsM l k), di k] (ri (k + 2 * l.length)) := by
  refine fn_of lv55 Tryz.func55 rfl rfl (by kernel_rfl) rfl ?_
  refine ⟨{ i : Nat // i ≤ l.length }, fun i => ⟨frL [(0, .d (bellsM l k)), (1, di (k + 2 * (i.1 : Int))), (5, di i.1)], hpL [], 0, 0⟩, fun i => l.length - i.1, ⟨0, by omega⟩,
    le_of [] rfl rfl rfl rfl trivial (tellFr_d rfl (DLe.refl _) (tellFr_v rfl (congrArg (Value.int .i64) (show k = k + 2 * ((0 : Nat) : Int) by omega)) (tellFr_v rfl rfl trivial))), ?_⟩
  rintro ⟨i, hi⟩
  refine bsplit_intro (fun h => ?_) (fun h => ?_)
  · have h : i < l.length := by simp at h; exact h
    have w1 : IntKind.i64.wrap (k + 2 * (i : Int) + 1) = k + 2 * (i : Int) + 1 := (wrap_i64 _ (by omega) (by omega)).trans (by omega)
    have wn : IntKind.i64.wrap (IntKind.i64.wrap (k + 2 * (i : Int) + 1) + 1) = k + 2 * ((i + 1 : Nat) : Int) := by rw [w1, wrap_i64 _ (by omega) (by omega)]; omega
    refine ask_intro ⟨by omega, by show (i : Int) < (l.length : Int); omega, rfl⟩ ?_
    refine bsplit_of_false (show (k + 2 * (i : Int) != k + 2 * (i : Int)) = false by simp) ?_
    refine ask_intro ⟨by omega, by show (i : Int) < (l.length : Int); omega, rfl⟩ ?_
    refine bsplit_of_false (show (k + 2 * (i : Int) + 1 != IntKind.i64.wrap (k + 2 * (i : Int) + 1)) = false by rw [w1]; simp) ?_
    exact ⟨⟨i + 1, by omega⟩, le_of [] rfl rfl rfl rfl trivial (tellFr_d rfl (DLe.refl _) (tellFr_v rfl (congrArg (Value.int .i64) wn) (tellFr_v rfl (congrArg (Value.int .i64) (wrap_i64 (i + 1) (by omega) (by omega) : IntKind.i64.wrap ((i : Int) + 1) = ((i + 1 : Nat) : Int))) trivial))), by show l.length - (i + 1) < l.length - i; omega⟩
  · simp at h
    have e : i = l.length := by omega
    subst e
    exact ⟨⟨rfl, trivial⟩, rfl⟩
abbrev slotsM (l : List SlotM) (k : Int) : D := .l l.length (slotMk k)
theorem c_laws_heldSlotS (l : List SlotM) (k : Int) (hl : l.length ≤ 109951162777) (hk : 0 ≤ k) (hk2 : k ≤ 1099511627776) : FnOK Tryz.prog 56 [.d (slotsM l k), di k] (ri (k + 2 * l.length)) := by
  refine fn_of lv56 Tryz.func56 rfl rfl (by kernel_rfl) rfl ?_
  refine ⟨{ i : Nat // i ≤ l.length }, fun i => ⟨frL [(0, .d (slotsM l k)), (1, di (k + 2 * (i.1 : Int))), (5, di i.1)], hpL [], 0, 0⟩, fun i => l.length - i.1, ⟨0, by omega⟩,
    le_of [] rfl rfl rfl rfl trivial (tellFr_d rfl (DLe.refl _) (tellFr_v rfl (congrArg (Value.int .i64) (show k = k + 2 * ((0 : Nat) : Int) by omega)) (tellFr_v rfl rfl trivial))), ?_⟩
  rintro ⟨i, hi⟩
  refine bsplit_intro (fun h => ?_) (fun h => ?_)
  · have h : i < l.length := by simp at h; exact h
    have w1 : IntKind.i64.wrap (k + 2 * (i : Int) + 1) = k + 2 * (i : Int) + 1 := (wrap_i64 _ (by omega) (by omega)).trans (by omega)
    have wn : IntKind.i64.wrap (IntKind.i64.wrap (k + 2 * (i : Int) + 1) + 1) = k + 2 * ((i + 1 : Nat) : Int) := by rw [w1, wrap_i64 _ (by omega) (by omega)]; omega
    refine ask_intro ⟨by omega, by show (i : Int) < (l.length : Int); omega, rfl⟩ ?_
    refine bsplit_of_false (show (k + 2 * (i : Int) != k + 2 * (i : Int)) = false by simp) ?_
    refine ask_intro ⟨by omega, by show (i : Int) < (l.length : Int); omega, rfl⟩ ?_
    refine bsplit_of_false (show (k + 2 * (i : Int) + 1 != IntKind.i64.wrap (k + 2 * (i : Int) + 1)) = false by rw [w1]; simp) ?_
    exact ⟨⟨i + 1, by omega⟩, le_of [] rfl rfl rfl rfl trivial (tellFr_d rfl (DLe.refl _) (tellFr_v rfl (congrArg (Value.int .i64) wn) (tellFr_v rfl (congrArg (Value.int .i64) (wrap_i64 (i + 1) (by omega) (by omega) : IntKind.i64.wrap ((i : Int) + 1) = ((i + 1 : Nat) : Int))) trivial))), by show l.length - (i + 1) < l.length - i; omega⟩
  · simp at h
    have e : i = l.length := by omega
    subst e
    exact ⟨⟨rfl, trivial⟩, rfl⟩
abbrev ownsM (l : List (List Int)) (k : Int) : D := .l l.length (fun i => [.l (lenF l i) (nestMk l k i)])
theorem c_laws_heldInt64SS (l : List (List Int)) (k : Int) (hl : l.length ≤ 1048576) (hs : sumN l ≤ 1048576) (hk : 0 ≤ k) (hk2 : k ≤ 1073741824) : FnOK Tryz.prog 53 [.d (ownsM l k), di k] (ri (k + (sumN l : Nat))) := by
  refine fn_of lv53 Tryz.func53 rfl rfl (by kernel_rfl) rfl ?_
  refine ⟨{ i : Nat // i ≤ l.length }, fun i => ⟨frL [(0, .d (ownsM l k)), (1, di (offK l k i.1)), (5, di i.1)], hpL [], 0, 0⟩, fun i => l.length - i.1, ⟨0, by omega⟩,
    le_of [] rfl rfl rfl rfl trivial (tellFr_d rfl (DLe.refl _) (tellFr_v rfl (congrArg (Value.int .i64) (show k = offK l k 0 by simp [offK, sumN])) (tellFr_v rfl rfl trivial))), ?_⟩
  rintro ⟨i, hi⟩
  by_cases h : i < l.length
  · have e1 := sumN_take l i h
    have e2 := sumN_le l i
    have e3 := sumN_get l i h
    have c1 := c_laws_heldInt64S (offK l k i) (l.getD i []).length (by omega) (by show 0 ≤ k + (sumN (l.take i) : Nat); omega) (by show k + (sumN (l.take i) : Nat) ≤ _; omega)
    have hnn : ¬ offK l k i + ((l.getD i []).length : Int) < 0 := by show ¬ k + (sumN (l.take i) : Nat) + ((l.getD i []).length : Int) < 0; omega
    refine bsplit_of_true (decide_eq_true (show (i : Int) < (l.length : Int) by omega)) ?_
    refine ask_intro ⟨by omega, by show (i : Int) < (l.length : Int); omega, rfl⟩ ?_
    refine .inl ⟨_, _, rfl, c1, rfl, ?_⟩
    refine bsplit_of_false (decide_eq_false hnn) ?_
    exact ⟨⟨i + 1, by omega⟩, le_of [] rfl rfl rfl rfl trivial (tellFr_d rfl (DLe.refl _) (tellFr_v rfl (congrArg (Value.int .i64) (show offK l k i + ((l.getD i []).length : Int) = offK l k (i + 1) by show k + (sumN (l.take i) : Nat) + ((l.getD i []).length : Int) = k + (sumN (l.take (i + 1)) : Nat); omega)) (tellFr_v rfl (congrArg (Value.int .i64) (wrap_i64 (i + 1) (by omega) (by omega) : IntKind.i64.wrap ((i : Int) + 1) = ((i + 1 : Nat) : Int))) trivial))), by show l.length - (i + 1) < l.length - i; omega⟩
  · obtain rfl : i = l.length := by omega
    refine bsplit_of_false (decide_eq_false (show ¬ (l.length : Int) < (l.length : Int) by omega)) ?_
    refine ⟨⟨congrArg (Value.int .i64) ?_, trivial⟩, rfl⟩
    show k + (sumN (l.take l.length) : Nat) = _
    rw [List.take_length]
abbrev polMD (x : PolM) (k : Int) : LV := .agg [.d (ownsM x.own k), .d (lanesM x.lns (polK1 x k)), .d (bellsM x.bls (polK2 x k)), .d (slotsM x.pln (polK3 x k))]
theorem c_laws_heldPolicy (x : PolM) (k : Int) (hf : (x.size : Int) ≤ 1048576) (hk : 0 ≤ k) (hk2 : k ≤ 1073741824) : FnOK Tryz.prog 24 [polMD x k, di k] (ri (polK x k)) := by
  have e : x.size = x.own.length + sumN x.own + x.lns.length + x.bls.length + x.pln.length := rfl
  have b1 : 0 ≤ polK1 x k ∧ polK1 x k ≤ 1074790400 := by show 0 ≤ k + (sumN x.own : Nat) ∧ k + (sumN x.own : Nat) ≤ _; omega
  have b2 : 0 ≤ polK2 x k ∧ polK2 x k ≤ 1080033280 := by show 0 ≤ k + (sumN x.own : Nat) + 5 * (x.lns.length : Int) ∧ k + (sumN x.own : Nat) + 5 * (x.lns.length : Int) ≤ _; omega
  have b3 : 0 ≤ polK3 x k ∧ polK3 x k ≤ 1082130432 := by show 0 ≤ k + (sumN x.own : Nat) + 5 * (x.lns.length : Int) + 2 * (x.bls.length : Int) ∧ k + (sumN x.own : Nat) + 5 * (x.lns.length : Int) + 2 * (x.bls.length : Int) ≤ _; omega
  have b4 := polK_b x k hf hk hk2
  have c1 := c_laws_heldInt64SS x.own k (by omega) (by omega) hk hk2
  have c2 := c_laws_heldLaneS x.lns (polK1 x k) (by omega) b1.1 (by omega)
  have c3 := c_laws_heldBellS x.bls (polK2 x k) (by omega) b2.1 (by omega)
  have c4 := c_laws_heldSlotS x.pln (polK3 x k) (by omega) b3.1 (by omega)
  have n1 : ¬ k + (sumN x.own : Nat) < 0 := by omega
  have n2 : ¬ polK1 x k + 5 * (x.lns.length : Int) < 0 := by omega
  have n3 : ¬ polK2 x k + 2 * (x.bls.length : Int) < 0 := by omega
  have n4 : ¬ polK3 x k + 2 * (x.pln.length : Int) < 0 := by omega
  refine fn_of lv24 Tryz.func24 rfl rfl (by kernel_rfl) rfl ?_
  refine .inl ⟨_, _, rfl, c1, rfl, ?_⟩
  refine bsplit_of_false (decide_eq_false n1) ?_
  refine .inl ⟨_, _, rfl, c2, rfl, ?_⟩
  refine bsplit_of_false (decide_eq_false n2) ?_
  refine .inl ⟨_, _, rfl, c3, rfl, ?_⟩
  refine bsplit_of_false (decide_eq_false n3) ?_
  refine .inl ⟨_, _, rfl, c4, rfl, ?_⟩
  refine bsplit_of_false (decide_eq_false n4) ?_
  exact ⟨⟨rfl, trivial⟩, rfl⟩
end Go.Proofs.YtojaakpnpdnbhaaGreatDoor.L

/- The law function over policies that are read answers true. -/
set_option linter.unusedVariables false
set_option linter.unusedSimpArgs false
set_option maxRecDepth 100000
namespace Go.Proofs.YtojaakpnpdnbhaaGreatDoor.L
open Go.RowKit
theorem parseR_read : ∀ (L : List (List UInt8)) (p : PolM) (last j : Int) (i : Nat), PolRead p i → ∃ i', i' ≤ i + L.length ∧ PolRead (parseR p last j L).1 i'
  | [], p, last, j, i, h => ⟨i, by omega, h⟩
  | [x], p, last, j, i, h => by
    unfold parseR
    split
    · exact ⟨i, by omega, h⟩
    · exact ⟨0, by omega, PolRead.none⟩
  | x :: y :: r, p, last, j, i, h => by
    cases hw : wordsW x with
    | none => rw [parse_bad hw]; exact ⟨0, by omega, PolRead.none⟩
    | some kn =>
      obtain ⟨k, n⟩ := kn
      by_cases hk : k < last
      · rw [parse_low hw hk]; exact ⟨0, by omega, PolRead.none⟩
      · rw [parse_step hw hk]
        obtain ⟨i', h1, h2⟩ := parseR_read (y :: r) (addP p k n) k (j + 1) (i + 1) (h.add (wordsW_some hw).2.2.1)
        exact ⟨i', by simp only [List.length_cons] at h1 ⊢; omega, h2⟩
theorem sumN_9 : ∀ (l : List (List Int)), (∀ j, j < l.length → (l.getD j []).length ≤ 9) → sumN l ≤ 9 * l.length
  | [], _ => Nat.le_refl _
  | a :: l, h => by
    have h0 := h 0 (by simp)
    have ih := sumN_9 l (fun j hj => h (j + 1) (by simp; omega))
    have e : sumN (a :: l) = a.length + sumN l := by unfold sumN; simp
    have h0 : a.length ≤ 9 := h0
    rw [e, List.length_cons]
    omega
theorem parsePol_read (t : List UInt8) : ∃ i, i ≤ 1001 ∧ PolRead (parsePol polFault t).2.2 i := by
  unfold parsePol
  split
  · exact ⟨0, by omega, PolRead.none⟩
  rename_i h
  obtain ⟨i, h1, h2⟩ := parseR_read (cutL 10 t) noPol 0 0 0 PolRead.none
  have h3 := (cutL_len 10 t).2
  generalize parseR noPol 0 0 (cutL 10 t) = R at *
  obtain ⟨p, j, b⟩ := R
  cases b with
  | false => exact ⟨0, by omega, PolRead.none⟩
  | true =>
    by_cases hf : polFault p = 0
    · simp only
      rw [if_pos hf]
      exact ⟨i, by omega, h2⟩
    · simp only
      rw [if_neg hf]
      exact ⟨0, by omega, PolRead.none⟩
theorem parsePol_few (t : List UInt8) : ((parsePol polFault t).2.2.size : Int) ≤ 1048576 ∧ (parsePol polFault t).2.2.small := by
  obtain ⟨i, h1, h2⟩ := parsePol_read t
  generalize (parsePol polFault t).2.2 = p at *
  refine ⟨?_, h2.small (by omega)⟩
  have h3 := h2.tot
  have h4 := sumN_9 p.own h2.row
  have e : p.size = p.own.length + sumN p.own + p.lns.length + p.bls.length + p.pln.length := rfl
  omega
abbrev prLV (q : Int × Int × PolM) : LV := .agg [di q.1, di q.2.1, .d (owns q.2.2.own), .d (lanes q.2.2.lns), .d (bells q.2.2.bls), .d (slots q.2.2.pln)]
theorem c_laws_eqPolicyResult (q : Int × Int × PolM) (hs : q.2.2.small) : FnOK Tryz.prog 7 [prLV q, prLV q] (rb true) := by
  have c1 := c_laws_eqPolicy q.2.2 q.2.2 hs
  rw [decide_eq_true rfl] at c1
  refine fn_of lv7 Tryz.func7 rfl rfl (by kernel_rfl) rfl ?_
  refine bsplit_of_false (show (q.1 != q.1) = false by simp) ?_
  refine bsplit_of_false (show (q.2.1 != q.2.1) = false by simp) ?_
  refine .inl ⟨_, _, rfl, c1, rfl, ?_⟩
  repeat' (first | refine bsplit_true ?_ | refine bsplit_false ?_)
  exact ⟨⟨rfl, trivial⟩, rfl⟩
theorem c_laws_markPolicyResult (q : Int × Int × PolM) (k : Int) (hf : (q.2.2.size : Int) ≤ 1048576) (hk : 0 ≤ k) (hk2 : k ≤ 1073741824) :
    MutOK Tryz.prog 8 [.agg [di q.1, di q.2.1, .row 0, .row 1, .row 2, .row 3], di k] 4 (polRows q.2.2) (di (polK q.2.2 k)) 4 (polMarks q.2.2 k) := by
  refine mut_fn_of lv8 Tryz.func8 rfl rfl (by kernel_rfl) rfl [] ?_
  refine .inr ⟨rfl, use_mut ⟨_, _, _, _, _, _, rfl, rfl, c_laws_markPolicy q.2.2 k hf hk hk2, rfl, ?_⟩⟩
  exact chk_intro (by kernel_rfl) ⟨tellV_v rfl rfl, tellHp_nest rfl rfl rfl (fun j hj => ⟨rfl, fun q hq => rfl⟩) (tellHp_row rfl rfl rfl (fun j hj => rfl) (tellHp_row rfl rfl rfl (fun j hj => rfl) (tellHp_row rfl rfl rfl (fun j hj => rfl) tellHp_nil)))⟩
theorem c_laws_heldPolicyResult (q : Int × Int × PolM) (k : Int) (hf : (q.2.2.size : Int) ≤ 1048576) (hk : 0 ≤ k) (hk2 : k ≤ 1073741824) :
    FnOK Tryz.prog 9 [.agg [di q.1, di q.2.1, .d (ownsM q.2.2.own k), .d (lanesM q.2.2.lns (polK1 q.2.2 k)), .d (bellsM q.2.2.bls (polK2 q.2.2 k)), .d (slotsM q.2.2.pln (polK3 q.2.2 k))], di k] (ri (polK q.2.2 k)) := by
  have hb := polK_b q.2.2 k hf hk hk2
  have hn : ¬ polK q.2.2 k < 0 := by omega
  refine fn_of lv9 Tryz.func9 rfl rfl (by kernel_rfl) rfl ?_
  refine .inl ⟨_, _, rfl, c_laws_heldPolicy q.2.2 k hf hk hk2, rfl, ?_⟩
  refine bsplit_of_false (decide_eq_false hn) ?_
  exact ⟨⟨rfl, trivial⟩, rfl⟩
set_option maxHeartbeats 1600000 in
theorem c_laws_FnExactParsePolicy (t : List UInt8) : FnOK Tryz.prog 3 [dT t] (rb true) := by
  have hsz := tx_size t
  by_cases ht : 1048576 < t.length
  · refine fn_of lv3 Tryz.func3 rfl rfl (by kernel_rfl) rfl ?_
    refine bsplit_of_true (decide_eq_true (show ((tx t).size : Int) > 1048576 by omega)) ?_
    exact ⟨⟨rfl, trivial⟩, rfl⟩
  have cs := c_spec_ParsePolicy t (by omega)
  have ci := c_impl_ParsePolicy t (by omega)
  obtain ⟨hf, hsm⟩ := parsePol_few t
  generalize parsePol polFault t = p at *
  have hb := polK_b p.2.2 1 hf (by omega) (by omega)
  have hn : ¬ polK p.2.2 1 < 0 := by omega
  have hne : (polK p.2.2 1 != polK p.2.2 1) = false := by simp
  refine fn_of lv3 Tryz.func3 rfl rfl (by kernel_rfl) rfl ?_
  refine bsplit_of_false (decide_eq_false (show ¬ ((tx t).size : Int) > 1048576 by omega)) ?_
  refine .inl ⟨_, _, rfl, cs, rfl, ?_⟩
  refine .inl ⟨_, _, rfl, ci, rfl, ?_⟩
  refine .inl ⟨_, _, rfl, c_laws_eqPolicyResult p hsm, rfl, ?_⟩
  repeat' (first | refine bsplit_true ?_ | refine bsplit_false ?_)
  refine .inr ⟨rfl, use_mut ⟨_, _, _, _, _, _, rfl, rfl, c_laws_markPolicyResult p 1 hf (by omega) (by omega), rfl, ?_⟩⟩
  refine .inl ⟨_, _, rfl, c_laws_heldPolicyResult p 1 hf (by omega) (by omega), rfl, ?_⟩
  refine bsplit_of_false (decide_eq_false hn) ?_
  refine bsplit_of_false (hne) ?_
  refine .inl ⟨_, _, rfl, ci, rfl, ?_⟩
  refine .inl ⟨_, _, rfl, c_laws_eqPolicyResult p hsm, rfl, ?_⟩
  repeat' (first | refine bsplit_true ?_ | refine bsplit_false ?_)
  refine .inl ⟨_, _, rfl, c_laws_heldPolicyResult p 1 hf (by omega) (by omega), rfl, ?_⟩
  refine bsplit_of_false (decide_eq_false hn) ?_
  refine bsplit_of_false (hne) ?_
  exact ⟨⟨rfl, trivial⟩, rfl⟩
theorem c_law_ParsePolicy (t : List UInt8) (ho : True) : FnOK Tryz.prog 3 [dT t] (rb true) := c_laws_FnExactParsePolicy t
end Go.Proofs.YtojaakpnpdnbhaaGreatDoor.L

/- The law functions over policies answer true. -/
set_option linter.unusedVariables false
set_option linter.unusedSimpArgs false
set_option maxRecDepth 100000
namespace Go.Proofs.YtojaakpnpdnbhaaGreatDoor.L
open Go.RowKit Go.ChangeShapes Go.WideShapes Go.ChangeAt
theorem reads_owns : ReadsT Tryz.prog 22 1 (List (List Int)) (fun l => [owns l]) (fun l => l.length * 24 ≤ reachBytes ∧ ∀ x ∈ l, okInts x) := ReadsT.slice reads_ints Tryz.underlying22 (by kernel_rfl) (by decide) [] (by kernel_rfl)
structure PolM.ok (x : PolM) : Prop where
  own : x.own.length * 24 ≤ reachBytes ∧ ∀ r ∈ x.own, okInts r
  lns : x.lns.length * 40 ≤ reachBytes ∧ ∀ p ∈ x.lns, ok64 p.frm ∧ ok64 p.to ∧ ok64 p.page ∧ ok64 p.af ∧ ok64 p.at_
  bls : x.bls.length * 16 ≤ reachBytes ∧ ∀ p ∈ x.bls, ok64 p.frm ∧ ok64 p.to
  pln : x.pln.length * 16 ≤ reachBytes ∧ ∀ p ∈ x.pln, ok64 p.guest ∧ ok64 p.steps
theorem PolM.ok.small {x : PolM} (h : x.ok) : x.small := by
  have e := reach_eq
  have a := h.own.1
  have b := h.lns.1
  have c := h.bls.1
  have d := h.pln.1
  refine ⟨by omega, fun i hi => ?_, by omega, by omega, by omega⟩
  have := (h.own.2 (x.own.getD i []) (by rw [getD_at _ hi]; exact List.getElem_mem hi)).1
  omega
theorem szP_of {x : PolM} {q : Int} (h : decide (szP x q < 0) = false) : (x.size : Int) ≤ q := by
  have h := of_decide_eq_false h
  unfold szP at h
  split at h <;> omega
end Go.Proofs.YtojaakpnpdnbhaaGreatDoor.L

/- The text of a policy: contracts. -/
set_option linter.unusedVariables false
set_option linter.unusedSimpArgs false
set_option maxRecDepth 100000
namespace Go.Proofs.YtojaakpnpdnbhaaGreatDoor.L
open Go.RowKit
theorem sz_okp {a b : ByteArray} (h : a.size + b.size ≤ 9000000000000000000) : ((a.size + b.size : Nat) : Int) ≤ 9223372036854775807 := by omega
abbrev few3 (l : List Int) : Prop := ∀ x ∈ l, 0 ≤ x ∧ x ≤ 999
theorem few3.f32 {l : List Int} (h : few3 l) : few32 l := fun x hx => by have := h x hx; omega
structure PolFew (x : PolM) : Prop where
  own : 1 ≤ x.own.length ∧ x.own.length ≤ 3
  row : ∀ l ∈ x.own, 1 ≤ l.length ∧ l.length ≤ 5 ∧ few3 l
  lns : x.lns.length ≤ 4
  lane : ∀ m ∈ x.lns, few3 [m.frm, m.to, m.page, m.af, m.at_]
  bls : x.bls.length ≤ 4
  bell : ∀ b ∈ x.bls, few3 [b.frm, b.to]
  pln : 1 ≤ x.pln.length ∧ x.pln.length ≤ 8
  slot : ∀ s ∈ x.pln, few3 [s.guest, s.steps]
theorem pf_bif {b : Bool} {x : Int} {n : Int} (h : (bif b then n else x) = 0) (hn : n ≠ 0) : b = false ∧ x = 0 := by cases b <;> simp_all
theorem pf_if {a x : Int} (h : (if a = 0 then x else a) = 0) : a = 0 ∧ x = 0 := by
  split at h
  · exact ⟨by assumption, h⟩
  · rename_i e; exact absurd h e
theorem pf_ends {n : Nat} (hn : n ≤ 3) {a b : Int} (h : endsF n a b = 0) : (0 ≤ a ∧ a ≤ 999) ∧ 0 ≤ b ∧ b ≤ 999 := by
  unfold endsF at h
  obtain ⟨h1, _⟩ := pf_bif h (by decide)
  simp only [Bool.or_eq_false_iff, Bool.not_eq_eq_eq_not, Bool.not_false] at h1
  have q1 := inR_iff.1 (show inR a 0 _ = true from h1.1)
  have q2 := inR_iff.1 (show inR b 0 _ = true from h1.2)
  omega
theorem pf_lanes {own : List (List Int)} (ho : own.length ≤ 3) : ∀ {l ah : List LaneM}, lanesBad own ah l = 0 → ∀ m ∈ l, few3 [m.frm, m.to, m.page, m.af, m.at_]
  | [], _, _, _, hm => by cases hm
  | z :: l, ah, h, m, hm => by
    unfold lanesBad at h
    obtain ⟨h1, h2⟩ := pf_if h
    rcases List.mem_cons.1 hm with rfl | hm
    · unfold laneBad at h1
      obtain ⟨h3, h4⟩ := pf_if h1
      obtain ⟨h5, _⟩ := pf_bif h4 (by decide)
      simp only [Bool.or_eq_false_iff, Bool.not_eq_eq_eq_not, Bool.not_false] at h5
      have e := pf_ends ho h3
      have p1 := inR_iff.1 h5.1
      have p2 := inR_iff.1 h5.2.1
      have p3 := inR_iff.1 h5.2.2
      intro y hy
      simp only [List.mem_cons, List.not_mem_nil, or_false] at hy
      rcases hy with rfl | rfl | rfl | rfl | rfl <;> omega
    · exact pf_lanes ho h2 m hm
theorem pf_bells {n : Nat} (ho : n ≤ 3) : ∀ {l ah : List BellM}, bellsBad n ah l = 0 → ∀ m ∈ l, few3 [m.frm, m.to]
  | [], _, _, _, hm => by cases hm
  | z :: l, ah, h, m, hm => by
    unfold bellsBad at h
    obtain ⟨h1, h2⟩ := pf_if h
    rcases List.mem_cons.1 hm with rfl | hm
    · unfold bellBad at h1
      obtain ⟨h3, h4⟩ := pf_if h1
      have e := pf_ends ho h3
      intro y hy
      simp only [List.mem_cons, List.not_mem_nil, or_false] at hy
      rcases hy with rfl | rfl <;> omega
    · exact pf_bells ho h2 m hm
theorem pol_fewT {x : PolM} (h : polFault x = 0) : PolFew x := by
  unfold polFault at h
  obtain ⟨h1, h⟩ := pf_if h
  obtain ⟨h2, h⟩ := pf_bif h (by decide)
  obtain ⟨h3, h⟩ := pf_if h
  obtain ⟨h4, h⟩ := pf_if h
  simp only [Bool.or_eq_false_iff, decide_eq_false_iff_not] at h2
  unfold ownBad at h1
  obtain ⟨o1, h1⟩ := pf_bif h1 (by decide)
  obtain ⟨o2, _⟩ := pf_if h1
  have o1 := inR_iff.1 (show inR (x.own.length : Int) 1 3 = true by simpa using o1)
  unfold planBad at h
  obtain ⟨p1, h⟩ := pf_bif h (by decide)
  have p1 := inR_iff.1 (show inR (x.pln.length : Int) 1 8 = true by simpa using p1)
  refine ⟨by omega, fun l hl => ?_, by omega, pf_lanes (by omega) h3, by omega, pf_bells (by omega) h4, by omega, fun s hs => ?_⟩
  · have hr := firstNZ_all o2 (rowBad l) (List.mem_map.2 ⟨_, hl, rfl⟩)
    unfold rowBad at hr
    obtain ⟨r1, hr⟩ := pf_bif hr (by decide)
    obtain ⟨r2, _⟩ := pf_bif hr (by decide)
    have r1 := inR_iff.1 (show inR (l.length : Int) 1 5 = true by simpa using r1)
    have r2 : l.all in23 = true := by simpa only [Bool.not_eq_false'] using r2
    refine ⟨by omega, by omega, fun y hy => ?_⟩
    have := inR_iff.1 (show inR y 0 23 = true from List.all_eq_true.1 r2 y hy)
    omega
  · have hr := firstNZ_all h (slotBad x.own.length s) (List.mem_map.2 ⟨_, hs, rfl⟩)
    unfold slotBad at hr
    obtain ⟨r1, hr⟩ := pf_bif hr (by decide)
    obtain ⟨r2, _⟩ := pf_bif hr (by decide)
    have r1 := inR_iff.1 (show inR s.guest 0 _ = true by simpa [guestB] using r1)
    have r2 := inR_iff.1 (show inR s.steps 1 50 = true by simpa using r2)
    intro y hy
    simp only [List.mem_cons, List.not_mem_nil, or_false] at hy
    rcases hy with rfl | rfl <;> omega
abbrev vOwn : List UInt8 := [111, 119, 110]
abbrev vLane : List UInt8 := [108, 97, 110, 101]
abbrev vBell : List UInt8 := [98, 101, 108, 108]
abbrev vSlot : List UInt8 := [115, 108, 111, 116]
abbrev fOwn (l : List Int) : List UInt8 := lineT vOwn l
abbrev fLane (m : LaneM) : List UInt8 := lineT vLane [m.frm, m.to, m.page, m.af, m.at_]
abbrev fBell (m : BellM) : List UInt8 := lineT vBell [m.frm, m.to]
abbrev fSlot (m : SlotM) : List UInt8 := lineT vSlot [m.guest, m.steps]
theorem flat_snoc {α : Type} (d : α) (f : α → List UInt8) (l : List α) (i : Nat) (h : i < l.length) : (l.take (i + 1)).flatMap f = (l.take i).flatMap f ++ f (l.getD i d) := by
  rw [List.take_succ_eq_append_getElem h, getD_at d h, List.flatMap_append, List.flatMap_cons, List.flatMap_nil, List.append_nil]
theorem flat_len0 {α : Type} (f : α → List UInt8) (B : Nat) : ∀ (l : List α), (∀ m ∈ l, (f m).length ≤ B) → (l.flatMap f).length ≤ l.length * B
  | [], _ => by simp
  | x :: l, h => by
    have h1 := h x (.head _)
    have h2 := flat_len0 f B l (fun m hm => h m (.tail _ hm))
    rw [List.flatMap_cons, List.length_append, List.length_cons, Nat.succ_mul]
    omega
theorem flat_len {α : Type} (f : α → List UInt8) (l : List α) (i : Nat) (h : ∀ m ∈ l, (f m).length ≤ 50000000000) (hl : l.length ≤ 8) : ((l.take i).flatMap f).length ≤ 400000000000 := by
  have h1 := flat_len0 f 50000000000 (l.take i) (fun m hm => h m (List.mem_of_mem_take hm))
  have h2 : (l.take i).length ≤ 8 := by rw [List.length_take]; omega
  have h3 := Nat.mul_le_mul_right 50000000000 h2
  exact Nat.le_trans h1 h3
theorem mem_getD {α : Type} (d : α) {l : List α} {i : Nat} (h : i < l.length) : l.getD i d ∈ l := by rw [getD_at d h]; exact List.getElem_mem h
def polT (x : PolM) : List UInt8 := x.own.flatMap fOwn ++ x.lns.flatMap fLane ++ x.bls.flatMap fBell ++ x.pln.flatMap fSlot
theorem lineT_few (w : List UInt8) (hw : w.length ≤ 10) {l : List Int} (h : few3 l) (hl : l.length ≤ 9) : (lineT w l).length ≤ 50000000000 := by
  have := lineT_len w h.f32
  omega
def formatPolicy (x : PolM) : Int × List UInt8 := if polFault x = 0 then (0, polT x) else (polFault x, [])
abbrev trR (p : Int × List UInt8) : RV1 := .agg [.v (.int .i64 p.1), .v (.string (tx p.2))]
abbrev trLV (p : Int × List UInt8) : LV := .agg [di p.1, dT p.2]
set_option maxHeartbeats 3200000 in
theorem c_impl_FormatPolicy (x : PolM) (hs : x.small) : FnOK Tryz.prog 12 [polLV x] (.r (trR (formatPolicy x))) := by
  have c1 := c_impl_PolicyFault x hs
  obtain ⟨r, hr⟩ : ∃ r, r = formatPolicy x := ⟨_, rfl⟩
  rw [← hr]
  unfold formatPolicy at hr
  by_cases h : polFault x = 0
  rotate_left
  · rw [if_neg h] at hr
    subst hr
    generalize polFault x = e at *
    refine fn_of lv12 Tryz.func12 rfl rfl (by kernel_rfl) rfl ?_
    refine .inl ⟨_, _, rfl, c1, rfl, ?_⟩
    refine bsplit_of_true (by simpa using h) ?_
    exact ⟨⟨rfl, rfl, trivial⟩, rfl⟩
  have hp := pol_fewT h
  rw [if_pos h] at hr
  rw [h] at c1
  have hfo : ∀ l ∈ x.own, (fOwn l).length ≤ 50000000000 := fun l hl => lineT_few _ (by decide) (hp.row l hl).2.2 (by have := (hp.row l hl).2.1; omega)
  have hlns : ∀ m ∈ x.lns, (fLane m).length ≤ 50000000000 := fun m hm => lineT_few _ (by decide) (hp.lane m hm) (by simp)
  have hbls : ∀ m ∈ x.bls, (fBell m).length ≤ 50000000000 := fun m hm => lineT_few _ (by decide) (hp.bell m hm) (by simp)
  have hpln : ∀ m ∈ x.pln, (fSlot m).length ≤ 50000000000 := fun m hm => lineT_few _ (by decide) (hp.slot m hm) (by simp)
  have nown : x.own.length ≤ 8 := by have := hp.own; omega
  have town := fun i => flat_len fOwn x.own i hfo nown
  have cown := fun i (h : i < x.own.length) => c_impl_numbered vOwn (x.own.getD i []) (by decide) (by have := (hp.row _ (mem_getD [] h)).2.1; omega) (hp.row _ (mem_getD [] h)).2.2.f32
  have nlns : x.lns.length ≤ 8 := by have := hp.lns; omega
  have tlns := fun i => flat_len fLane x.lns i hlns nlns
  have clns := fun i (h : i < x.lns.length) => c_impl_numbered vLane [(x.lns.getD i ⟨0, 0, 0, 0, 0⟩).frm, (x.lns.getD i ⟨0, 0, 0, 0, 0⟩).to, (x.lns.getD i ⟨0, 0, 0, 0, 0⟩).page, (x.lns.getD i ⟨0, 0, 0, 0, 0⟩).af, (x.lns.getD i ⟨0, 0, 0, 0, 0⟩).at_] (by decide) (by simp) (hp.lane _ (mem_getD ⟨0, 0, 0, 0, 0⟩ h)).f32
  have nbls : x.bls.length ≤ 8 := by have := hp.bls; omega
  have tbls := fun i => flat_len fBell x.bls i hbls nbls
  have cbls := fun i (h : i < x.bls.length) => c_impl_numbered vBell [(x.bls.getD i ⟨0, 0⟩).frm, (x.bls.getD i ⟨0, 0⟩).to] (by decide) (by simp) (hp.bell _ (mem_getD ⟨0, 0⟩ h)).f32
  have npln : x.pln.length ≤ 8 := by have := hp.pln; omega
  have tpln := fun i => flat_len fSlot x.pln i hpln npln
  have cpln := fun i (h : i < x.pln.length) => c_impl_numbered vSlot [(x.pln.getD i ⟨0, 0⟩).guest, (x.pln.getD i ⟨0, 0⟩).steps] (by decide) (by simp) (hp.slot _ (mem_getD ⟨0, 0⟩ h)).f32
  obtain ⟨A0, hA0⟩ : ∃ A : Nat → List UInt8, A = fun i => (x.own.take i).flatMap fOwn := ⟨_, rfl⟩
  have lA0 : ∀ i, (A0 i).length ≤ 400000000000 := fun i => by
    have := town i
    rw [hA0]
    simp only [List.length_append]
    omega
  have sA0 : ∀ i, i < x.own.length → tx (A0 i) ++ tx (fOwn (x.own.getD i [])) = tx (A0 (i + 1)) := fun i h => by
    rw [hA0, tx_app]
    show tx (_ ++ _) = tx (_)
    simp only [flat_snoc [] fOwn x.own i h, List.append_assoc]
  have zA0 : ∀ i, i < x.own.length → (((tx (A0 i)).size + (tx (fOwn (x.own.getD i []))).size : Nat) : Int) ≤ 9223372036854775807 := fun i h => sz_okp (by
    have q1 := lA0 i
    have q2 := hfo _ (mem_getD [] h)
    simp only [tx_size]
    omega)
  have eA0 : ([] : List UInt8) = A0 0 := by rw [hA0]; simp
  obtain ⟨A1, hA1⟩ : ∃ A : Nat → List UInt8, A = fun i => A0 x.own.length ++ (x.lns.take i).flatMap fLane := ⟨_, rfl⟩
  have lA1 : ∀ i, (A1 i).length ≤ 800000000000 := fun i => by
    have q := lA0 x.own.length; have := tlns i
    rw [hA1]
    simp only [List.length_append]
    omega
  have sA1 : ∀ i, i < x.lns.length → tx (A1 i) ++ tx (fLane (x.lns.getD i ⟨0, 0, 0, 0, 0⟩)) = tx (A1 (i + 1)) := fun i h => by
    rw [hA1, tx_app]
    show tx (_ ++ _) = tx (_)
    simp only [flat_snoc ⟨0, 0, 0, 0, 0⟩ fLane x.lns i h, List.append_assoc]
  have zA1 : ∀ i, i < x.lns.length → (((tx (A1 i)).size + (tx (fLane (x.lns.getD i ⟨0, 0, 0, 0, 0⟩))).size : Nat) : Int) ≤ 9223372036854775807 := fun i h => sz_okp (by
    have q1 := lA1 i
    have q2 := hlns _ (mem_getD ⟨0, 0, 0, 0, 0⟩ h)
    simp only [tx_size]
    omega)
  have eA1 : A0 x.own.length = A1 0 := by rw [hA1]; simp
  obtain ⟨A2, hA2⟩ : ∃ A : Nat → List UInt8, A = fun i => A1 x.lns.length ++ (x.bls.take i).flatMap fBell := ⟨_, rfl⟩
  have lA2 : ∀ i, (A2 i).length ≤ 1200000000000 := fun i => by
    have q := lA1 x.lns.length; have := tbls i
    rw [hA2]
    simp only [List.length_append]
    omega
  have sA2 : ∀ i, i < x.bls.length → tx (A2 i) ++ tx (fBell (x.bls.getD i ⟨0, 0⟩)) = tx (A2 (i + 1)) := fun i h => by
    rw [hA2, tx_app]
    show tx (_ ++ _) = tx (_)
    simp only [flat_snoc ⟨0, 0⟩ fBell x.bls i h, List.append_assoc]
  have zA2 : ∀ i, i < x.bls.length → (((tx (A2 i)).size + (tx (fBell (x.bls.getD i ⟨0, 0⟩))).size : Nat) : Int) ≤ 9223372036854775807 := fun i h => sz_okp (by
    have q1 := lA2 i
    have q2 := hbls _ (mem_getD ⟨0, 0⟩ h)
    simp only [tx_size]
    omega)
  have eA2 : A1 x.lns.length = A2 0 := by rw [hA2]; simp
  obtain ⟨A3, hA3⟩ : ∃ A : Nat → List UInt8, A = fun i => A2 x.bls.length ++ (x.pln.take i).flatMap fSlot := ⟨_, rfl⟩
  have lA3 : ∀ i, (A3 i).length ≤ 1600000000000 := fun i => by
    have q := lA2 x.bls.length; have := tpln i
    rw [hA3]
    simp only [List.length_append]
    omega
  have sA3 : ∀ i, i < x.pln.length → tx (A3 i) ++ tx (fSlot (x.pln.getD i ⟨0, 0⟩)) = tx (A3 (i + 1)) := fun i h => by
    rw [hA3, tx_app]
    show tx (_ ++ _) = tx (_)
    simp only [flat_snoc ⟨0, 0⟩ fSlot x.pln i h, List.append_assoc]
  have zA3 : ∀ i, i < x.pln.length → (((tx (A3 i)).size + (tx (fSlot (x.pln.getD i ⟨0, 0⟩))).size : Nat) : Int) ≤ 9223372036854775807 := fun i h => sz_okp (by
    have q1 := lA3 i
    have q2 := hpln _ (mem_getD ⟨0, 0⟩ h)
    simp only [tx_size]
    omega)
  have eA3 : A2 x.bls.length = A3 0 := by rw [hA3]; simp
  have eT : A3 x.pln.length = polT x := by
    rw [hA3, hA2, hA1, hA0]
    simp only [List.take_length]
    rfl
  rw [← eT] at hr
  subst hr
  refine fn_of lv12 Tryz.func12 rfl rfl (by kernel_rfl) rfl ?_
  refine .inl ⟨_, _, rfl, c1, rfl, ?_⟩
  repeat' (first | refine bsplit_true ?_ | refine bsplit_false ?_)
  refine ⟨{ i : Nat // i ≤ x.own.length }, fun i => ⟨frL [(1, .ptr 10 0), (2, .ptr 11 0), (4, dT (A0 i.1)), (20, .d (owns x.own)), (21, di x.own.length), (22, di i.1)], hpL [(10, .box 27 [.d (owns x.own), .d (lanes x.lns), .d (bells x.bls), .d (slots x.pln)]), (11, .box 38 [di 0, dT []])], 97, 0⟩, fun i => x.own.length - i.1, ⟨0, by omega⟩,
    le_of [(10, 0), (11, 32)] rfl rfl rfl rfl (tellHp_box rfl rfl ⟨DLe.refl _, DLe.refl _, DLe.refl _, DLe.refl _, trivial⟩ (tellHp_box rfl rfl ⟨rfl, rfl, trivial⟩ tellHp_nil)) (tellFr_ptr rfl rfl (tellFr_ptr rfl rfl (tellFr_v rfl (congrArg (fun z => Value.string (tx z)) eA0) (tellFr_d rfl (DLe.refl _) (tellFr_v rfl rfl (tellFr_v rfl rfl trivial)))))), ?_⟩
  rintro ⟨i, hi⟩
  by_cases hb0 : i < x.own.length
  · have hwi := congrArg (Value.int .i64) (wrap1 hb0 (by omega))
    refine bsplit_of_true (decide_eq_true (show (i : Int) < (x.own.length : Int) by omega)) ?_
    refine ask_intro ⟨by omega, by show (i : Int) < (x.own.length : Int); omega, rfl⟩ ?_
    refine .inl ⟨_, _, rfl, cown i hb0, rfl, ?_⟩
    refine ask_intro (zA0 i hb0) ?_
    exact ⟨⟨i + 1, by omega⟩, le_of [(10, 10), (11, 11)] rfl rfl rfl rfl (tellHp_box rfl rfl ⟨DLe.refl _, DLe.refl _, DLe.refl _, DLe.refl _, trivial⟩ (tellHp_box rfl rfl ⟨rfl, rfl, trivial⟩ tellHp_nil)) (tellFr_ptr rfl rfl (tellFr_ptr rfl rfl (tellFr_v rfl (congrArg Value.string (sA0 i hb0)) (tellFr_d rfl (DLe.refl _) (tellFr_v rfl rfl (tellFr_v rfl hwi trivial)))))), by show x.own.length - (i + 1) < x.own.length - i; omega⟩
  obtain rfl : i = x.own.length := by omega
  refine bsplit_of_false (decide_eq_false (show ¬ (x.own.length : Int) < (x.own.length : Int) by omega)) ?_
  refine ⟨{ i : Nat // i ≤ x.lns.length }, fun i => ⟨frL [(1, .ptr 10 0), (2, .ptr 11 0), (4, dT (A1 i.1)), (32, .d (lanes x.lns)), (33, di x.lns.length), (34, di i.1)], hpL [(10, .box 27 [.d (owns x.own), .d (lanes x.lns), .d (bells x.bls), .d (slots x.pln)]), (11, .box 38 [di 0, dT []])], 97, 0⟩, fun i => x.lns.length - i.1, ⟨0, by omega⟩,
    le_of [(10, 10), (11, 11)] rfl rfl rfl rfl (tellHp_box rfl rfl ⟨DLe.refl _, DLe.refl _, DLe.refl _, DLe.refl _, trivial⟩ (tellHp_box rfl rfl ⟨rfl, rfl, trivial⟩ tellHp_nil)) (tellFr_ptr rfl rfl (tellFr_ptr rfl rfl (tellFr_v rfl (congrArg (fun z => Value.string (tx z)) eA1) (tellFr_d rfl (DLe.refl _) (tellFr_v rfl rfl (tellFr_v rfl rfl trivial)))))), ?_⟩
  rintro ⟨i, hi⟩
  by_cases hb1 : i < x.lns.length
  · have hwi := congrArg (Value.int .i64) (wrap1 hb1 (by omega))
    refine bsplit_of_true (decide_eq_true (show (i : Int) < (x.lns.length : Int) by omega)) ?_
    refine ask_intro ⟨by omega, by show (i : Int) < (x.lns.length : Int); omega, rfl⟩ ?_
    refine .inl ⟨_, _, rfl, (clns i hb1).weak ⟨LVLe.refl _, LVLe.d (DLe.l rfl (fun j hj => litD_eq [(x.lns.getD i ⟨0, 0, 0, 0, 0⟩).frm, (x.lns.getD i ⟨0, 0, 0, 0, 0⟩).to, (x.lns.getD i ⟨0, 0, 0, 0, 0⟩).page, (x.lns.getD i ⟨0, 0, 0, 0, 0⟩).af, (x.lns.getD i ⟨0, 0, 0, 0, 0⟩).at_] j hj)), trivial⟩, rfl, ?_⟩
    refine ask_intro (zA1 i hb1) ?_
    exact ⟨⟨i + 1, by omega⟩, le_of [(10, 10), (11, 11)] rfl rfl rfl rfl (tellHp_box rfl rfl ⟨DLe.refl _, DLe.refl _, DLe.refl _, DLe.refl _, trivial⟩ (tellHp_box rfl rfl ⟨rfl, rfl, trivial⟩ tellHp_nil)) (tellFr_ptr rfl rfl (tellFr_ptr rfl rfl (tellFr_v rfl (congrArg Value.string (sA1 i hb1)) (tellFr_d rfl (DLe.refl _) (tellFr_v rfl rfl (tellFr_v rfl hwi trivial)))))), by show x.lns.length - (i + 1) < x.lns.length - i; omega⟩
  obtain rfl : i = x.lns.length := by omega
  refine bsplit_of_false (decide_eq_false (show ¬ (x.lns.length : Int) < (x.lns.length : Int) by omega)) ?_
  refine ⟨{ i : Nat // i ≤ x.bls.length }, fun i => ⟨frL [(1, .ptr 10 0), (2, .ptr 11 0), (4, dT (A2 i.1)), (54, .d (bells x.bls)), (55, di x.bls.length), (56, di i.1)], hpL [(10, .box 27 [.d (owns x.own), .d (lanes x.lns), .d (bells x.bls), .d (slots x.pln)]), (11, .box 38 [di 0, dT []])], 97, 0⟩, fun i => x.bls.length - i.1, ⟨0, by omega⟩,
    le_of [(10, 10), (11, 11)] rfl rfl rfl rfl (tellHp_box rfl rfl ⟨DLe.refl _, DLe.refl _, DLe.refl _, DLe.refl _, trivial⟩ (tellHp_box rfl rfl ⟨rfl, rfl, trivial⟩ tellHp_nil)) (tellFr_ptr rfl rfl (tellFr_ptr rfl rfl (tellFr_v rfl (congrArg (fun z => Value.string (tx z)) eA2) (tellFr_d rfl (DLe.refl _) (tellFr_v rfl rfl (tellFr_v rfl rfl trivial)))))), ?_⟩
  rintro ⟨i, hi⟩
  by_cases hb2 : i < x.bls.length
  · have hwi := congrArg (Value.int .i64) (wrap1 hb2 (by omega))
    refine bsplit_of_true (decide_eq_true (show (i : Int) < (x.bls.length : Int) by omega)) ?_
    refine ask_intro ⟨by omega, by show (i : Int) < (x.bls.length : Int); omega, rfl⟩ ?_
    refine .inl ⟨_, _, rfl, (cbls i hb2).weak ⟨LVLe.refl _, LVLe.d (DLe.l rfl (fun j hj => litD_eq [(x.bls.getD i ⟨0, 0⟩).frm, (x.bls.getD i ⟨0, 0⟩).to] j hj)), trivial⟩, rfl, ?_⟩
    refine ask_intro (zA2 i hb2) ?_
    exact ⟨⟨i + 1, by omega⟩, le_of [(10, 10), (11, 11)] rfl rfl rfl rfl (tellHp_box rfl rfl ⟨DLe.refl _, DLe.refl _, DLe.refl _, DLe.refl _, trivial⟩ (tellHp_box rfl rfl ⟨rfl, rfl, trivial⟩ tellHp_nil)) (tellFr_ptr rfl rfl (tellFr_ptr rfl rfl (tellFr_v rfl (congrArg Value.string (sA2 i hb2)) (tellFr_d rfl (DLe.refl _) (tellFr_v rfl rfl (tellFr_v rfl hwi trivial)))))), by show x.bls.length - (i + 1) < x.bls.length - i; omega⟩
  obtain rfl : i = x.bls.length := by omega
  refine bsplit_of_false (decide_eq_false (show ¬ (x.bls.length : Int) < (x.bls.length : Int) by omega)) ?_
  refine ⟨{ i : Nat // i ≤ x.pln.length }, fun i => ⟨frL [(2, .ptr 11 0), (4, dT (A3 i.1)), (70, .d (slots x.pln)), (71, di x.pln.length), (72, di i.1)], hpL [(11, .box 38 [di 0, dT []])], 97, 0⟩, fun i => x.pln.length - i.1, ⟨0, by omega⟩,
    le_of [(11, 11)] rfl rfl rfl rfl (tellHp_box rfl rfl ⟨rfl, rfl, trivial⟩ tellHp_nil) (tellFr_ptr rfl rfl (tellFr_v rfl (congrArg (fun z => Value.string (tx z)) eA3) (tellFr_d rfl (DLe.refl _) (tellFr_v rfl rfl (tellFr_v rfl rfl trivial))))), ?_⟩
  rintro ⟨i, hi⟩
  by_cases hb3 : i < x.pln.length
  · have hwi := congrArg (Value.int .i64) (wrap1 hb3 (by omega))
    refine bsplit_of_true (decide_eq_true (show (i : Int) < (x.pln.length : Int) by omega)) ?_
    refine ask_intro ⟨by omega, by show (i : Int) < (x.pln.length : Int); omega, rfl⟩ ?_
    refine .inl ⟨_, _, rfl, (cpln i hb3).weak ⟨LVLe.refl _, LVLe.d (DLe.l rfl (fun j hj => litD_eq [(x.pln.getD i ⟨0, 0⟩).guest, (x.pln.getD i ⟨0, 0⟩).steps] j hj)), trivial⟩, rfl, ?_⟩
    refine ask_intro (zA3 i hb3) ?_
    exact ⟨⟨i + 1, by omega⟩, le_of [(11, 11)] rfl rfl rfl rfl (tellHp_box rfl rfl ⟨rfl, rfl, trivial⟩ tellHp_nil) (tellFr_ptr rfl rfl (tellFr_v rfl (congrArg Value.string (sA3 i hb3)) (tellFr_d rfl (DLe.refl _) (tellFr_v rfl rfl (tellFr_v rfl hwi trivial))))), by show x.pln.length - (i + 1) < x.pln.length - i; omega⟩
  obtain rfl : i = x.pln.length := by omega
  refine bsplit_of_false (decide_eq_false (show ¬ (x.pln.length : Int) < (x.pln.length : Int) by omega)) ?_
  exact ⟨⟨rfl, rfl, trivial⟩, rfl⟩
set_option maxHeartbeats 3200000 in
theorem c_spec_l6Text (x : PolM) (hs : x.small) (hp : PolFew x) : FnOK Tryz.prog 60 [polP x] (rT (polT x)) := by
  have hfo : ∀ l ∈ x.own, (fOwn l).length ≤ 50000000000 := fun l hl => lineT_few _ (by decide) (hp.row l hl).2.2 (by have := (hp.row l hl).2.1; omega)
  have hlns : ∀ m ∈ x.lns, (fLane m).length ≤ 50000000000 := fun m hm => lineT_few _ (by decide) (hp.lane m hm) (by simp)
  have hbls : ∀ m ∈ x.bls, (fBell m).length ≤ 50000000000 := fun m hm => lineT_few _ (by decide) (hp.bell m hm) (by simp)
  have hpln : ∀ m ∈ x.pln, (fSlot m).length ≤ 50000000000 := fun m hm => lineT_few _ (by decide) (hp.slot m hm) (by simp)
  have nown : x.own.length ≤ 8 := by have := hp.own; omega
  have town := fun i => flat_len fOwn x.own i hfo nown
  have cown := fun i (h : i < x.own.length) => c_spec_l6Line vOwn (x.own.getD i []) (by decide) (by have := (hp.row _ (mem_getD [] h)).2.1; omega) (hp.row _ (mem_getD [] h)).2.2.f32
  have nlns : x.lns.length ≤ 8 := by have := hp.lns; omega
  have tlns := fun i => flat_len fLane x.lns i hlns nlns
  have clns := fun i (h : i < x.lns.length) => c_spec_l6Line vLane [(x.lns.getD i ⟨0, 0, 0, 0, 0⟩).frm, (x.lns.getD i ⟨0, 0, 0, 0, 0⟩).to, (x.lns.getD i ⟨0, 0, 0, 0, 0⟩).page, (x.lns.getD i ⟨0, 0, 0, 0, 0⟩).af, (x.lns.getD i ⟨0, 0, 0, 0, 0⟩).at_] (by decide) (by simp) (hp.lane _ (mem_getD ⟨0, 0, 0, 0, 0⟩ h)).f32
  have nbls : x.bls.length ≤ 8 := by have := hp.bls; omega
  have tbls := fun i => flat_len fBell x.bls i hbls nbls
  have cbls := fun i (h : i < x.bls.length) => c_spec_l6Line vBell [(x.bls.getD i ⟨0, 0⟩).frm, (x.bls.getD i ⟨0, 0⟩).to] (by decide) (by simp) (hp.bell _ (mem_getD ⟨0, 0⟩ h)).f32
  have npln : x.pln.length ≤ 8 := by have := hp.pln; omega
  have tpln := fun i => flat_len fSlot x.pln i hpln npln
  have cpln := fun i (h : i < x.pln.length) => c_spec_l6Line vSlot [(x.pln.getD i ⟨0, 0⟩).guest, (x.pln.getD i ⟨0, 0⟩).steps] (by decide) (by simp) (hp.slot _ (mem_getD ⟨0, 0⟩ h)).f32
  obtain ⟨A0, hA0⟩ : ∃ A : Nat → List UInt8, A = fun i => (x.own.take i).flatMap fOwn := ⟨_, rfl⟩
  have lA0 : ∀ i, (A0 i).length ≤ 400000000000 := fun i => by
    have := town i
    rw [hA0]
    simp only [List.length_append]
    omega
  have sA0 : ∀ i, i < x.own.length → tx (A0 i) ++ tx (fOwn (x.own.getD i [])) = tx (A0 (i + 1)) := fun i h => by
    rw [hA0, tx_app]
    show tx (_ ++ _) = tx (_)
    simp only [flat_snoc [] fOwn x.own i h, List.append_assoc]
  have zA0 : ∀ i, i < x.own.length → (((tx (A0 i)).size + (tx (fOwn (x.own.getD i []))).size : Nat) : Int) ≤ 9223372036854775807 := fun i h => sz_okp (by
    have q1 := lA0 i
    have q2 := hfo _ (mem_getD [] h)
    simp only [tx_size]
    omega)
  have eA0 : ([] : List UInt8) = A0 0 := by rw [hA0]; simp
  obtain ⟨A1, hA1⟩ : ∃ A : Nat → List UInt8, A = fun i => A0 x.own.length ++ (x.lns.take i).flatMap fLane := ⟨_, rfl⟩
  have lA1 : ∀ i, (A1 i).length ≤ 800000000000 := fun i => by
    have q := lA0 x.own.length; have := tlns i
    rw [hA1]
    simp only [List.length_append]
    omega
  have sA1 : ∀ i, i < x.lns.length → tx (A1 i) ++ tx (fLane (x.lns.getD i ⟨0, 0, 0, 0, 0⟩)) = tx (A1 (i + 1)) := fun i h => by
    rw [hA1, tx_app]
    show tx (_ ++ _) = tx (_)
    simp only [flat_snoc ⟨0, 0, 0, 0, 0⟩ fLane x.lns i h, List.append_assoc]
  have zA1 : ∀ i, i < x.lns.length → (((tx (A1 i)).size + (tx (fLane (x.lns.getD i ⟨0, 0, 0, 0, 0⟩))).size : Nat) : Int) ≤ 9223372036854775807 := fun i h => sz_okp (by
    have q1 := lA1 i
    have q2 := hlns _ (mem_getD ⟨0, 0, 0, 0, 0⟩ h)
    simp only [tx_size]
    omega)
  have eA1 : A0 x.own.length = A1 0 := by rw [hA1]; simp
  obtain ⟨A2, hA2⟩ : ∃ A : Nat → List UInt8, A = fun i => A1 x.lns.length ++ (x.bls.take i).flatMap fBell := ⟨_, rfl⟩
  have lA2 : ∀ i, (A2 i).length ≤ 1200000000000 := fun i => by
    have q := lA1 x.lns.length; have := tbls i
    rw [hA2]
    simp only [List.length_append]
    omega
  have sA2 : ∀ i, i < x.bls.length → tx (A2 i) ++ tx (fBell (x.bls.getD i ⟨0, 0⟩)) = tx (A2 (i + 1)) := fun i h => by
    rw [hA2, tx_app]
    show tx (_ ++ _) = tx (_)
    simp only [flat_snoc ⟨0, 0⟩ fBell x.bls i h, List.append_assoc]
  have zA2 : ∀ i, i < x.bls.length → (((tx (A2 i)).size + (tx (fBell (x.bls.getD i ⟨0, 0⟩))).size : Nat) : Int) ≤ 9223372036854775807 := fun i h => sz_okp (by
    have q1 := lA2 i
    have q2 := hbls _ (mem_getD ⟨0, 0⟩ h)
    simp only [tx_size]
    omega)
  have eA2 : A1 x.lns.length = A2 0 := by rw [hA2]; simp
  obtain ⟨A3, hA3⟩ : ∃ A : Nat → List UInt8, A = fun i => A2 x.bls.length ++ (x.pln.take i).flatMap fSlot := ⟨_, rfl⟩
  have lA3 : ∀ i, (A3 i).length ≤ 1600000000000 := fun i => by
    have q := lA2 x.bls.length; have := tpln i
    rw [hA3]
    simp only [List.length_append]
    omega
  have sA3 : ∀ i, i < x.pln.length → tx (A3 i) ++ tx (fSlot (x.pln.getD i ⟨0, 0⟩)) = tx (A3 (i + 1)) := fun i h => by
    rw [hA3, tx_app]
    show tx (_ ++ _) = tx (_)
    simp only [flat_snoc ⟨0, 0⟩ fSlot x.pln i h, List.append_assoc]
  have zA3 : ∀ i, i < x.pln.length → (((tx (A3 i)).size + (tx (fSlot (x.pln.getD i ⟨0, 0⟩))).size : Nat) : Int) ≤ 9223372036854775807 := fun i h => sz_okp (by
    have q1 := lA3 i
    have q2 := hpln _ (mem_getD ⟨0, 0⟩ h)
    simp only [tx_size]
    omega)
  have eA3 : A2 x.bls.length = A3 0 := by rw [hA3]; simp
  have eT : A3 x.pln.length = polT x := by
    rw [hA3, hA2, hA1, hA0]
    simp only [List.take_length]
    rfl
  rw [← eT]
  refine fn_of lv60 Tryz.func60 rfl rfl (by kernel_rfl) rfl ?_
  refine ⟨{ i : Nat // i ≤ x.own.length }, fun i => ⟨frL [(0, polP x), (3, dT (A0 i.1)), (4, di i.1)], hpL [], 97, 0⟩, fun i => x.own.length - i.1, ⟨0, by omega⟩,
    le_of [] rfl rfl rfl rfl tellHp_nil (tellFr_x rfl ⟨DLe.refl _, DLe.refl _, DLe.refl _, DLe.refl _, trivial⟩ (tellFr_v rfl (congrArg (fun z => Value.string (tx z)) eA0) (tellFr_v rfl rfl trivial))), ?_⟩
  rintro ⟨i, hi⟩
  by_cases hb0 : i < x.own.length
  · have hwi := congrArg (Value.int .i64) (wrap1 hb0 (by omega))
    refine bsplit_of_true (decide_eq_true (show (i : Int) < (x.own.length : Int) by omega)) ?_
    refine ask_intro ⟨by omega, by show (i : Int) < (x.own.length : Int); omega, rfl⟩ ?_
    refine .inl ⟨_, _, rfl, (cown i hb0), rfl, ?_⟩
    refine ask_intro (zA0 i hb0) ?_
    exact ⟨⟨i + 1, by omega⟩, le_of [] rfl rfl rfl rfl tellHp_nil (tellFr_x rfl ⟨DLe.refl _, DLe.refl _, DLe.refl _, DLe.refl _, trivial⟩ (tellFr_v rfl (congrArg Value.string (sA0 i hb0)) (tellFr_v rfl hwi trivial))), by show x.own.length - (i + 1) < x.own.length - i; omega⟩
  obtain rfl : i = x.own.length := by omega
  refine bsplit_of_false (decide_eq_false (show ¬ (x.own.length : Int) < (x.own.length : Int) by omega)) ?_
  refine ⟨{ i : Nat // i ≤ x.lns.length }, fun i => ⟨frL [(0, polP x), (3, dT (A1 i.1)), (5, di i.1)], hpL [], 97, 0⟩, fun i => x.lns.length - i.1, ⟨0, by omega⟩,
    le_of [] rfl rfl rfl rfl tellHp_nil (tellFr_x rfl ⟨DLe.refl _, DLe.refl _, DLe.refl _, DLe.refl _, trivial⟩ (tellFr_v rfl (congrArg (fun z => Value.string (tx z)) eA1) (tellFr_v rfl rfl trivial))), ?_⟩
  rintro ⟨i, hi⟩
  by_cases hb1 : i < x.lns.length
  · have hwi := congrArg (Value.int .i64) (wrap1 hb1 (by omega))
    refine bsplit_of_true (decide_eq_true (show (i : Int) < (x.lns.length : Int) by omega)) ?_
    refine ask_intro ⟨by omega, by show (i : Int) < (x.lns.length : Int); omega, rfl⟩ ?_
    refine .inl ⟨_, _, rfl, (clns i hb1).weak ⟨LVLe.refl _, LVLe.d (DLe.l rfl (fun j hj => litD_eq [(x.lns.getD i ⟨0, 0, 0, 0, 0⟩).frm, (x.lns.getD i ⟨0, 0, 0, 0, 0⟩).to, (x.lns.getD i ⟨0, 0, 0, 0, 0⟩).page, (x.lns.getD i ⟨0, 0, 0, 0, 0⟩).af, (x.lns.getD i ⟨0, 0, 0, 0, 0⟩).at_] j hj)), trivial⟩, rfl, ?_⟩
    refine ask_intro (zA1 i hb1) ?_
    exact ⟨⟨i + 1, by omega⟩, le_of [] rfl rfl rfl rfl tellHp_nil (tellFr_x rfl ⟨DLe.refl _, DLe.refl _, DLe.refl _, DLe.refl _, trivial⟩ (tellFr_v rfl (congrArg Value.string (sA1 i hb1)) (tellFr_v rfl hwi trivial))), by show x.lns.length - (i + 1) < x.lns.length - i; omega⟩
  obtain rfl : i = x.lns.length := by omega
  refine bsplit_of_false (decide_eq_false (show ¬ (x.lns.length : Int) < (x.lns.length : Int) by omega)) ?_
  refine ⟨{ i : Nat // i ≤ x.bls.length }, fun i => ⟨frL [(0, polP x), (3, dT (A2 i.1)), (7, di i.1)], hpL [], 97, 0⟩, fun i => x.bls.length - i.1, ⟨0, by omega⟩,
    le_of [] rfl rfl rfl rfl tellHp_nil (tellFr_x rfl ⟨DLe.refl _, DLe.refl _, DLe.refl _, DLe.refl _, trivial⟩ (tellFr_v rfl (congrArg (fun z => Value.string (tx z)) eA2) (tellFr_v rfl rfl trivial))), ?_⟩
  rintro ⟨i, hi⟩
  by_cases hb2 : i < x.bls.length
  · have hwi := congrArg (Value.int .i64) (wrap1 hb2 (by omega))
    refine bsplit_of_true (decide_eq_true (show (i : Int) < (x.bls.length : Int) by omega)) ?_
    refine ask_intro ⟨by omega, by show (i : Int) < (x.bls.length : Int); omega, rfl⟩ ?_
    refine ask_intro ⟨by omega, by show (i : Int) < (x.bls.length : Int); omega, rfl⟩ ?_
    refine .inl ⟨_, _, rfl, (cbls i hb2).weak ⟨LVLe.refl _, LVLe.d (DLe.l rfl (fun j hj => litD_eq [(x.bls.getD i ⟨0, 0⟩).frm, (x.bls.getD i ⟨0, 0⟩).to] j hj)), trivial⟩, rfl, ?_⟩
    refine ask_intro (zA2 i hb2) ?_
    refine chk_intro (by kernel_rfl) ?_
    exact ⟨⟨i + 1, by omega⟩, le_of [] rfl rfl rfl rfl tellHp_nil (tellFr_x rfl ⟨DLe.refl _, DLe.refl _, DLe.refl _, DLe.refl _, trivial⟩ (tellFr_v rfl (congrArg Value.string (sA2 i hb2)) (tellFr_v rfl hwi trivial))), by show x.bls.length - (i + 1) < x.bls.length - i; omega⟩
  obtain rfl : i = x.bls.length := by omega
  refine bsplit_of_false (decide_eq_false (show ¬ (x.bls.length : Int) < (x.bls.length : Int) by omega)) ?_
  refine ⟨{ i : Nat // i ≤ x.pln.length }, fun i => ⟨frL [(0, polP x), (3, dT (A3 i.1)), (8, di i.1)], hpL [], 97, 0⟩, fun i => x.pln.length - i.1, ⟨0, by omega⟩,
    le_of [] rfl rfl rfl rfl tellHp_nil (tellFr_x rfl ⟨DLe.refl _, DLe.refl _, DLe.refl _, DLe.refl _, trivial⟩ (tellFr_v rfl (congrArg (fun z => Value.string (tx z)) eA3) (tellFr_v rfl rfl trivial))), ?_⟩
  rintro ⟨i, hi⟩
  by_cases hb3 : i < x.pln.length
  · have hwi := congrArg (Value.int .i64) (wrap1 hb3 (by omega))
    refine bsplit_of_true (decide_eq_true (show (i : Int) < (x.pln.length : Int) by omega)) ?_
    refine ask_intro ⟨by omega, by show (i : Int) < (x.pln.length : Int); omega, rfl⟩ ?_
    refine ask_intro ⟨by omega, by show (i : Int) < (x.pln.length : Int); omega, rfl⟩ ?_
    refine .inl ⟨_, _, rfl, (cpln i hb3).weak ⟨LVLe.refl _, LVLe.d (DLe.l rfl (fun j hj => litD_eq [(x.pln.getD i ⟨0, 0⟩).guest, (x.pln.getD i ⟨0, 0⟩).steps] j hj)), trivial⟩, rfl, ?_⟩
    refine ask_intro (zA3 i hb3) ?_
    refine chk_intro (by kernel_rfl) ?_
    exact ⟨⟨i + 1, by omega⟩, le_of [] rfl rfl rfl rfl tellHp_nil (tellFr_x rfl ⟨DLe.refl _, DLe.refl _, DLe.refl _, DLe.refl _, trivial⟩ (tellFr_v rfl (congrArg Value.string (sA3 i hb3)) (tellFr_v rfl hwi trivial))), by show x.pln.length - (i + 1) < x.pln.length - i; omega⟩
  obtain rfl : i = x.pln.length := by omega
  refine bsplit_of_false (decide_eq_false (show ¬ (x.pln.length : Int) < (x.pln.length : Int) by omega)) ?_
  exact ⟨⟨rfl, trivial⟩, rfl⟩
theorem c_spec_FormatPolicy (x : PolM) (hs : x.small) : FnOK Tryz.prog 27 [polLV x] (.r (trR (formatPolicy x))) := by
  have c1 := c_spec_l6Fault x hs
  obtain ⟨r, hr⟩ : ∃ r, r = formatPolicy x := ⟨_, rfl⟩
  rw [← hr]
  unfold formatPolicy at hr
  by_cases h : polFault x = 0
  rotate_left
  · rw [if_neg h] at hr
    subst hr
    generalize polFault x = e at *
    refine fn_of lv27 Tryz.func27 rfl rfl (by kernel_rfl) rfl ?_
    refine .inl ⟨_, _, rfl, c1, rfl, ?_⟩
    refine bsplit_of_true (by simpa using h) ?_
    exact ⟨⟨rfl, rfl, trivial⟩, rfl⟩
  have c2 := c_spec_l6Text x hs (pol_fewT h)
  rw [if_pos h] at hr
  rw [h] at c1
  subst hr
  generalize polT x = T at *
  refine fn_of lv27 Tryz.func27 rfl rfl (by kernel_rfl) rfl ?_
  refine .inl ⟨_, _, rfl, c1, rfl, ?_⟩
  repeat' (first | refine bsplit_true ?_ | refine bsplit_false ?_)
  refine .inl ⟨_, _, rfl, c2, rfl, ?_⟩
  exact ⟨⟨rfl, rfl, trivial⟩, rfl⟩
end Go.Proofs.YtojaakpnpdnbhaaGreatDoor.L

/- Policies as texts and back: plain facts. -/
set_option linter.unusedVariables false
set_option linter.unusedSimpArgs false
set_option maxRecDepth 100000
namespace Go.Proofs.YtojaakpnpdnbhaaGreatDoor.L
open Go.RowKit
/-- pieces put together again -/
def unl (b : UInt8) : List (List UInt8) → List UInt8
  | [] => []
  | [x] => x
  | x :: y :: r => x ++ b :: unl b (y :: r)
theorem unl_cut (b : UInt8) : ∀ t : List UInt8, unl b (cutL b t) = t
  | [] => rfl
  | c :: r => by
    have ih := unl_cut b r
    obtain ⟨y, r', h⟩ := cut_cons b r
    unfold cutL
    split
    · rename_i e
      rw [h] at ih ⊢
      show [] ++ b :: unl b (y :: r') = _
      rw [ih, e]
      rfl
    · rw [h] at ih ⊢
      show unl b ((c :: y) :: r') = _
      cases r' with
      | nil =>
        have ih : y = r := ih
        show c :: y = _
        rw [ih]
      | cons z r2 =>
        have ih : y ++ b :: unl b (z :: r2) = r := ih
        show (c :: y) ++ b :: unl b (z :: r2) = _
        rw [← ih]
        rfl
theorem unl_join (w : List UInt8) : ∀ ds : List (List UInt8), unl 32 (w :: ds) = w ++ Lib.joinTail [32] ds := by
  intro ds
  induction ds generalizing w with
  | nil => show w = w ++ []; rw [List.append_nil]
  | cons d r ih =>
    show w ++ 32 :: unl 32 (d :: r) = _
    rw [ih]
    simp [Lib.joinTail]
def wordK (k : Int) : List UInt8 := if k = 0 then wOwn else if k = 1 then wLane else if k = 2 then wBell else wSlot
theorem kind_word {w : List UInt8} {k : Int} (h : kindW w = k) (h0 : 0 ≤ k) : w = wordK k := by
  unfold kindW at h
  split at h
  · subst h; assumption
  split at h
  · subst h; assumption
  split at h
  · subst h; assumption
  split at h
  · subst h; assumption
  · omega
theorem words_text {x : List UInt8} {k : Int} {n : List Int} (h : wordsW x = some (k, n)) : x = lineB (wordK k) n := by
  obtain ⟨h0, h3, _, h4, h5⟩ := wordsW_some h
  obtain ⟨y, r, hc⟩ := cut_cons 32 x
  have hx := unl_cut 32 x
  rw [hc] at h4 h5 hx
  have h4 : numsW r = some n := h4
  have h5 : kindW y = k := h5
  rw [unl_join, (numsW_some h4).2.2, kind_word h5 h0] at hx
  exact hx.symm
structure UpTo (p : PolM) (k : Int) : Prop where
  p3 : k < 3 → p.pln = []
  p2 : k < 2 → p.bls = []
  p1 : k < 1 → p.lns = []
theorem UpTo.le {p : PolM} {a b : Int} (h : UpTo p a) (hab : a ≤ b) : UpTo p b := ⟨fun e => h.p3 (by omega), fun e => h.p2 (by omega), fun e => h.p1 (by omega)⟩
theorem five {n : List Int} (h : n.length = 5) : n = [n.getD 0 0, n.getD 1 0, n.getD 2 0, n.getD 3 0, n.getD 4 0] := by
  match n, h with
  | [a, b, c, d, e], _ => rfl
theorem two {n : List Int} (h : n.length = 2) : n = [n.getD 0 0, n.getD 1 0] := by
  match n, h with
  | [a, b], _ => rfl
theorem polT_add {p : PolM} {k : Int} {n : List Int} (hu : UpTo p k) (h0 : 0 ≤ k) (h3 : k ≤ 3) (hw : wantOK k n.length = true) : polT (addP p k n) = polT p ++ lineT (wordK k) n ∧ UpTo (addP p k n) k := by
  by_cases e0 : k = 0
  · subst e0
    have a1 := hu.p1 (by decide)
    have a2 := hu.p2 (by decide)
    have a3 := hu.p3 (by decide)
    refine ⟨?_, ⟨fun _ => a3, fun _ => a2, fun _ => a1⟩⟩
    show (p.own ++ [n]).flatMap fOwn ++ p.lns.flatMap fLane ++ p.bls.flatMap fBell ++ p.pln.flatMap fSlot = _
    unfold polT
    rw [a1, a2, a3]
    simp
    rfl
  by_cases e1 : k = 1
  · subst e1
    have a2 := hu.p2 (by decide)
    have a3 := hu.p3 (by decide)
    have hn : n.length = 5 := by simpa [wantOK] using hw
    refine ⟨?_, ⟨fun _ => a3, fun _ => a2, fun h => absurd h (by decide)⟩⟩
    show p.own.flatMap fOwn ++ (p.lns ++ [(⟨n.getD 0 0, n.getD 1 0, n.getD 2 0, n.getD 3 0, n.getD 4 0⟩ : LaneM)]).flatMap fLane ++ p.bls.flatMap fBell ++ p.pln.flatMap fSlot = _
    have hf : fLane ⟨n.getD 0 0, n.getD 1 0, n.getD 2 0, n.getD 3 0, n.getD 4 0⟩ = lineT (wordK 1) n := by
      conv => rhs; rw [five hn]
      rfl
    unfold polT
    rw [a2, a3, List.flatMap_append]
    simp only [List.flatMap_cons, List.flatMap_nil, List.append_nil, hf, List.append_assoc]
  by_cases e2 : k = 2
  · subst e2
    have a3 := hu.p3 (by decide)
    have hn : n.length = 2 := by simpa [wantOK] using hw
    refine ⟨?_, ⟨fun _ => a3, fun h => absurd h (by decide), fun h => absurd h (by decide)⟩⟩
    show p.own.flatMap fOwn ++ p.lns.flatMap fLane ++ (p.bls ++ [(⟨n.getD 0 0, n.getD 1 0⟩ : BellM)]).flatMap fBell ++ p.pln.flatMap fSlot = _
    have hf : fBell ⟨n.getD 0 0, n.getD 1 0⟩ = lineT (wordK 2) n := by
      conv => rhs; rw [two hn]
      rfl
    unfold polT
    rw [a3, List.flatMap_append]
    simp only [List.flatMap_cons, List.flatMap_nil, List.append_nil, hf, List.append_assoc]
  · obtain rfl : k = 3 := by omega
    have hn : n.length = 2 := by simpa [wantOK] using hw
    refine ⟨?_, ⟨fun h => absurd h (by decide), fun h => absurd h (by decide), fun h => absurd h (by decide)⟩⟩
    show p.own.flatMap fOwn ++ p.lns.flatMap fLane ++ p.bls.flatMap fBell ++ (p.pln ++ [(⟨n.getD 0 0, n.getD 1 0⟩ : SlotM)]).flatMap fSlot = _
    have hf : fSlot ⟨n.getD 0 0, n.getD 1 0⟩ = lineT (wordK 3) n := by
      conv => rhs; rw [two hn]
      rfl
    unfold polT
    rw [List.flatMap_append]
    simp only [List.flatMap_cons, List.flatMap_nil, List.append_nil, hf, List.append_assoc]
theorem parse_text : ∀ (L : List (List UInt8)) (p : PolM) (last i : Int) (p' : PolM) (j : Int), UpTo p last → parseR p last i L = (p', j, true) → polT p' = polT p ++ unl 10 L
  | [], p, last, i, p', j, _, h => by
    obtain ⟨rfl, _⟩ := Prod.mk.inj h
    show _ = polT p ++ []
    rw [List.append_nil]
  | [x], p, last, i, p', j, _, h => by
    unfold parseR at h
    split at h
    · rename_i e
      obtain ⟨rfl, _⟩ := Prod.mk.inj h
      show _ = polT p ++ x
      rw [e, List.append_nil]
    · simp at h
  | x :: y :: r, p, last, i, p', j, hu, h => by
    cases hw : wordsW x with
    | none => rw [parse_bad hw] at h; simp at h
    | some kn =>
      obtain ⟨k, n⟩ := kn
      by_cases hk : k < last
      · rw [parse_low hw hk] at h; simp at h
      · rw [parse_step hw hk] at h
        obtain ⟨h0, h3, hwo, _, _⟩ := wordsW_some hw
        obtain ⟨e1, e2⟩ := polT_add (hu.le (by omega : last ≤ k)) h0 h3 hwo
        rw [parse_text (y :: r) _ _ _ _ _ e2 h, e1]
        have hx := words_text hw
        show _ = polT p ++ (x ++ 10 :: unl 10 (y :: r))
        unfold lineT
        rw [← hx]
        simp
theorem parse_format {t : List UInt8} (h : (parsePol polFault t).1 = 0) : formatPolicy (parsePol polFault t).2.2 = (0, t) := by
  unfold parsePol at h ⊢
  split at h
  · exact absurd h (by decide)
  rename_i hl
  rw [if_neg hl]
  generalize hR : parseR noPol 0 0 (cutL 10 t) = R at *
  obtain ⟨p, i, b⟩ := R
  cases b with
  | false => exact absurd h (show ¬ (5 : Int) = 0 by decide)
  | true =>
    simp only at h ⊢
    split at h
    · rename_i hf
      rw [if_pos hf]
      unfold formatPolicy
      simp only
      rw [if_pos hf, parse_text _ _ _ _ _ _ ⟨fun _ => rfl, fun _ => rfl, fun _ => rfl⟩ hR, unl_cut]
      rfl
    · rename_i hf
      exact absurd h hf
theorem dd_ge (u : Nat) : ∀ x ∈ Lib.decDigits u, 48 ≤ x.toNat := by
  induction u using Nat.strongRecOn with
  | ind u ih =>
    intro x hx
    rw [dd_eq] at hx
    split at hx
    · rename_i h
      rw [List.mem_singleton] at hx
      rw [hx, (digV' h).2]
      omega
    · rename_i h
      rcases List.mem_append.1 hx with hx | hx
      · exact ih (u / 10) (by omega) x hx
      · rw [List.mem_singleton] at hx
        rw [hx, (digV' (by omega)).2]
        omega
theorem dd_free (u : Nat) : free 32 (Lib.decDigits u) ∧ free 10 (Lib.decDigits u) := by
  refine ⟨fun x hx e => ?_, fun x hx e => ?_⟩
  · have := dd_ge u x hx
    rw [e] at this
    exact absurd this (by decide)
  · have := dd_ge u x hx
    rw [e] at this
    exact absurd this (by decide)
theorem cut_join (w : List UInt8) (hw : free 32 w) : ∀ ds : List (List UInt8), (∀ d ∈ ds, free 32 d) → cutL 32 (w ++ Lib.joinTail [32] ds) = w :: ds := by
  intro ds
  induction ds generalizing w with
  | nil =>
    intro _
    show cutL 32 (w ++ []) = _
    rw [List.append_nil, cutL_end hw]
  | cons d r ih =>
    intro h
    have e : w ++ Lib.joinTail [32] (d :: r) = w ++ 32 :: (d ++ Lib.joinTail [32] r) := by simp [Lib.joinTail]
    rw [e, cutL_hit hw, ih d (h d (.head _)) (fun x hx => h x (.tail _ hx))]
theorem line_free (w : List UInt8) (hw : free 10 w) (l : List Int) : free 10 (lineB w l) := by
  intro x hx
  unfold lineB at hx
  rcases List.mem_append.1 hx with hx | hx
  · exact hw x hx
  · unfold Lib.joinTail at hx
    rw [List.mem_flatten] at hx
    obtain ⟨d, hd, hx⟩ := hx
    obtain ⟨y, hy, rfl⟩ := List.mem_map.1 hd
    unfold decT at hy
    obtain ⟨v, _, rfl⟩ := List.mem_map.1 hy
    rcases List.mem_append.1 hx with hx | hx
    · rw [List.mem_singleton] at hx; rw [hx]; decide
    · exact (dd_free _).2 x hx
theorem word_free (k : Int) : free 32 (wordK k) ∧ free 10 (wordK k) := by
  unfold wordK
  split
  · exact ⟨by unfold free wOwn; decide, by unfold free wOwn; decide⟩
  split
  · exact ⟨by unfold free wLane; decide, by unfold free wLane; decide⟩
  split
  · exact ⟨by unfold free wBell; decide, by unfold free wBell; decide⟩
  · exact ⟨by unfold free wSlot; decide, by unfold free wSlot; decide⟩
theorem word_kind {k : Int} (h0 : 0 ≤ k) (h3 : k ≤ 3) : kindW (wordK k) = k := by
  by_cases e0 : k = 0
  · subst e0; decide
  by_cases e1 : k = 1
  · subst e1; decide
  by_cases e2 : k = 2
  · subst e2; decide
  obtain rfl : k = 3 := by omega
  decide
theorem words_of {k : Int} {l : List Int} (h0 : 0 ≤ k) (h3 : k ≤ 3) (hl : few3 l) (hw : wantOK k l.length = true) : wordsW (lineB (wordK k) l) = some (k, l) := by
  have hc : cutL 32 (lineB (wordK k) l) = wordK k :: decT l := by
    unfold lineB
    refine cut_join _ (word_free k).1 _ fun d hd => ?_
    unfold decT at hd
    obtain ⟨v, _, rfl⟩ := List.mem_map.1 hd
    exact (dd_free _).1
  have hk := word_kind h0 h3
  unfold wordsW
  rw [hc]
  have hn : numsW ((wordK k :: decT l).drop 1) = some l := numsW_dd hl
  have hg : (wordK k :: decT l).getD 0 [] = wordK k := rfl
  rw [hn, hg, hk]
  simp only
  rw [if_neg (by omega), if_pos hw]
theorem parse_items {α : Type} (f : α → List Int) (k : Int) (h0 : 0 ≤ k) (h3 : k ≤ 3) : ∀ (items : List α), (∀ a ∈ items, few3 (f a) ∧ wantOK k (f a).length = true) → ∀ (p : PolM) (last i : Int) (rest : List UInt8), last ≤ k →
    ∃ last' i', last' ≤ k ∧ parseR p last i (cutL 10 (items.flatMap (fun a => lineT (wordK k) (f a)) ++ rest)) = parseR (items.foldl (fun p a => addP p k (f a)) p) last' i' (cutL 10 rest)
  | [], _, p, last, i, rest, hl => ⟨last, i, hl, rfl⟩
  | a :: r, h, p, last, i, rest, hl => by
    obtain ⟨ha1, ha2⟩ := h a (.head _)
    obtain ⟨last', i', h1, h2⟩ := parse_items f k h0 h3 r (fun x hx => h x (.tail _ hx)) (addP p k (f a)) k (i + 1) rest (Int.le_refl _)
    refine ⟨last', i', h1, ?_⟩
    have e : (a :: r).flatMap (fun a => lineT (wordK k) (f a)) ++ rest = lineB (wordK k) (f a) ++ 10 :: (r.flatMap (fun a => lineT (wordK k) (f a)) ++ rest) := by
      simp [lineT]
    rw [e, cutL_hit (line_free _ (word_free k).2 _)]
    obtain ⟨y, r', hc⟩ := cut_cons 10 (r.flatMap (fun a => lineT (wordK k) (f a)) ++ rest)
    rw [hc, parse_step (words_of h0 h3 ha1 ha2) (by omega), ← hc, h2]
    rfl
theorem fold_own : ∀ (l : List (List Int)) (p : PolM), l.foldl (fun p a => addP p 0 a) p = ⟨p.own ++ l, p.lns, p.bls, p.pln⟩
  | [], p => by simp
  | a :: l, p => by
    rw [List.foldl_cons, fold_own l]
    show (⟨(p.own ++ [a]) ++ l, p.lns, p.bls, p.pln⟩ : PolM) = _
    simp
theorem fold_lns : ∀ (l : List LaneM) (p : PolM), l.foldl (fun p m => addP p 1 [m.frm, m.to, m.page, m.af, m.at_]) p = ⟨p.own, p.lns ++ l, p.bls, p.pln⟩
  | [], p => by simp
  | a :: l, p => by
    rw [List.foldl_cons, fold_lns l]
    show (⟨p.own, (p.lns ++ [a]) ++ l, p.bls, p.pln⟩ : PolM) = _
    simp
theorem fold_bls : ∀ (l : List BellM) (p : PolM), l.foldl (fun p m => addP p 2 [m.frm, m.to]) p = ⟨p.own, p.lns, p.bls ++ l, p.pln⟩
  | [], p => by simp
  | a :: l, p => by
    rw [List.foldl_cons, fold_bls l]
    show (⟨p.own, p.lns, (p.bls ++ [a]) ++ l, p.pln⟩ : PolM) = _
    simp
theorem fold_pln : ∀ (l : List SlotM) (p : PolM), l.foldl (fun p m => addP p 3 [m.guest, m.steps]) p = ⟨p.own, p.lns, p.bls, p.pln ++ l⟩
  | [], p => by simp
  | a :: l, p => by
    rw [List.foldl_cons, fold_pln l]
    show (⟨p.own, p.lns, p.bls, (p.pln ++ [a]) ++ l⟩ : PolM) = _
    simp
theorem format_parse {x : PolM} (hf : polFault x = 0) (hl : ¬ 1000 < (polT x).length) : parsePol polFault (polT x) = (0, 0, x) := by
  have hp := pol_fewT hf
  have e : polT x = x.own.flatMap (fun a => lineT (wordK 0) a) ++ (x.lns.flatMap (fun m => lineT (wordK 1) [m.frm, m.to, m.page, m.af, m.at_]) ++ (x.bls.flatMap (fun m => lineT (wordK 2) [m.frm, m.to]) ++ (x.pln.flatMap (fun m => lineT (wordK 3) [m.guest, m.steps]) ++ []))) := by
    rw [List.append_nil, ← List.append_assoc, ← List.append_assoc]
    rfl
  obtain ⟨l1, i1, q1, c1⟩ := parse_items (fun a : List Int => a) 0 (by decide) (by decide) x.own (fun a ha => ⟨(hp.row a ha).2.2, by have := hp.row a ha; simp [wantOK]; omega⟩) noPol 0 0 (x.lns.flatMap (fun m => lineT (wordK 1) [m.frm, m.to, m.page, m.af, m.at_]) ++ (x.bls.flatMap (fun m => lineT (wordK 2) [m.frm, m.to]) ++ (x.pln.flatMap (fun m => lineT (wordK 3) [m.guest, m.steps]) ++ []))) (by decide)
  rw [fold_own] at c1
  obtain ⟨l2, i2, q2, c2⟩ := parse_items (fun m : LaneM => [m.frm, m.to, m.page, m.af, m.at_]) 1 (by decide) (by decide) x.lns (fun m hm => ⟨hp.lane m hm, rfl⟩) ⟨noPol.own ++ x.own, noPol.lns, noPol.bls, noPol.pln⟩ l1 i1 (x.bls.flatMap (fun m => lineT (wordK 2) [m.frm, m.to]) ++ (x.pln.flatMap (fun m => lineT (wordK 3) [m.guest, m.steps]) ++ [])) (by omega)
  rw [fold_lns] at c2
  obtain ⟨l3, i3, q3, c3⟩ := parse_items (fun m : BellM => [m.frm, m.to]) 2 (by decide) (by decide) x.bls (fun m hm => ⟨hp.bell m hm, rfl⟩) ⟨noPol.own ++ x.own, noPol.lns ++ x.lns, noPol.bls, noPol.pln⟩ l2 i2 (x.pln.flatMap (fun m => lineT (wordK 3) [m.guest, m.steps]) ++ []) (by omega)
  rw [fold_bls] at c3
  obtain ⟨l4, i4, q4, c4⟩ := parse_items (fun m : SlotM => [m.guest, m.steps]) 3 (by decide) (by decide) x.pln (fun m hm => ⟨hp.slot m hm, rfl⟩) ⟨noPol.own ++ x.own, noPol.lns ++ x.lns, noPol.bls ++ x.bls, noPol.pln⟩ l3 i3 [] (by omega)
  rw [fold_pln] at c4
  have hx : (⟨noPol.own ++ x.own, noPol.lns ++ x.lns, noPol.bls ++ x.bls, noPol.pln ++ x.pln⟩ : PolM) = x := rfl
  have hR : parseR noPol 0 0 (cutL 10 (polT x)) = (x, i4, true) := by
    rw [e, c1, c2, c3, c4, hx]
    rfl
  unfold parsePol
  rw [if_neg hl, hR]
  simp only
  rw [if_pos hf]
end Go.Proofs.YtojaakpnpdnbhaaGreatDoor.L

/- Choices out of a literal of so many numbers: contracts. -/
set_option linter.unusedVariables false
set_option maxRecDepth 100000
namespace Go.Proofs.YtojaakpnpdnbhaaGreatDoor.L
open Go.RowKit
theorem pick2 (c : List Int) (hc : okCode c) (p : Int) (a b : Int) (hp : 0 ≤ p) (hp2 : p ≤ 549755813888) : MutOK Tryz.prog 59 [.ptr 0 0, .row 1] 2 [(0, srcBox c p), (1, .row 2 1 2 (fun i => ([[D.v (.int .i64 a)], [D.v (.int .i64 b)]] : List (List D)).getD i []))] (di (pk c p [a, b])) 2 [(0, srcBox c (p + 1)), (1, rowE [a, b])] := c_spec_l1Pick c hc p [a, b] hp hp2 (by simp)
theorem pick3 (c : List Int) (hc : okCode c) (p : Int) (a b d : Int) (hp : 0 ≤ p) (hp2 : p ≤ 549755813888) : MutOK Tryz.prog 59 [.ptr 0 0, .row 1] 2 [(0, srcBox c p), (1, .row 2 1 3 (fun i => ([[D.v (.int .i64 a)], [D.v (.int .i64 b)], [D.v (.int .i64 d)]] : List (List D)).getD i []))] (di (pk c p [a, b, d])) 2 [(0, srcBox c (p + 1)), (1, rowE [a, b, d])] := c_spec_l1Pick c hc p [a, b, d] hp hp2 (by simp)
theorem pick4 (c : List Int) (hc : okCode c) (p : Int) (a b d e : Int) (hp : 0 ≤ p) (hp2 : p ≤ 549755813888) : MutOK Tryz.prog 59 [.ptr 0 0, .row 1] 2 [(0, srcBox c p), (1, .row 2 1 4 (fun i => ([[D.v (.int .i64 a)], [D.v (.int .i64 b)], [D.v (.int .i64 d)], [D.v (.int .i64 e)]] : List (List D)).getD i []))] (di (pk c p [a, b, d, e])) 2 [(0, srcBox c (p + 1)), (1, rowE [a, b, d, e])] := c_spec_l1Pick c hc p [a, b, d, e] hp hp2 (by simp)
theorem pick5 (c : List Int) (hc : okCode c) (p : Int) (a b d e f : Int) (hp : 0 ≤ p) (hp2 : p ≤ 549755813888) : MutOK Tryz.prog 59 [.ptr 0 0, .row 1] 2 [(0, srcBox c p), (1, .row 2 1 5 (fun i => ([[D.v (.int .i64 a)], [D.v (.int .i64 b)], [D.v (.int .i64 d)], [D.v (.int .i64 e)], [D.v (.int .i64 f)]] : List (List D)).getD i []))] (di (pk c p [a, b, d, e, f])) 2 [(0, srcBox c (p + 1)), (1, rowE [a, b, d, e, f])] := c_spec_l1Pick c hc p [a, b, d, e, f] hp hp2 (by simp)
theorem pick6 (c : List Int) (hc : okCode c) (p : Int) (a b d e f g : Int) (hp : 0 ≤ p) (hp2 : p ≤ 549755813888) : MutOK Tryz.prog 59 [.ptr 0 0, .row 1] 2 [(0, srcBox c p), (1, .row 2 1 6 (fun i => ([[D.v (.int .i64 a)], [D.v (.int .i64 b)], [D.v (.int .i64 d)], [D.v (.int .i64 e)], [D.v (.int .i64 f)], [D.v (.int .i64 g)]] : List (List D)).getD i []))] (di (pk c p [a, b, d, e, f, g])) 2 [(0, srcBox c (p + 1)), (1, rowE [a, b, d, e, f, g])] := c_spec_l1Pick c hc p [a, b, d, e, f, g] hp hp2 (by simp)
theorem pick7 (c : List Int) (hc : okCode c) (p : Int) (a b d e f g h : Int) (hp : 0 ≤ p) (hp2 : p ≤ 549755813888) : MutOK Tryz.prog 59 [.ptr 0 0, .row 1] 2 [(0, srcBox c p), (1, .row 2 1 7 (fun i => ([[D.v (.int .i64 a)], [D.v (.int .i64 b)], [D.v (.int .i64 d)], [D.v (.int .i64 e)], [D.v (.int .i64 f)], [D.v (.int .i64 g)], [D.v (.int .i64 h)]] : List (List D)).getD i []))] (di (pk c p [a, b, d, e, f, g, h])) 2 [(0, srcBox c (p + 1)), (1, rowE [a, b, d, e, f, g, h])] := c_spec_l1Pick c hc p [a, b, d, e, f, g, h] hp hp2 (by simp)
end Go.Proofs.YtojaakpnpdnbhaaGreatDoor.L

/- Owners, steps, faults with more asked: contracts. -/
set_option linter.unusedVariables false
set_option linter.unusedSimpArgs false
set_option maxRecDepth 100000
namespace Go.Proofs.YtojaakpnpdnbhaaGreatDoor.L
open Go.RowKit
def ownerOf (x : PolM) (v : Int) : Int × Int := if polFault x = 0 then (if ownerP x.own v < 0 then (4, 0) else (0, ownerP x.own v)) else (polFault x, 0)
/-! ## faults with a guest, with a clock -/
def askedG (x : PolM) (g : Int) : Int := if polFault x = 0 then (bif !guestB x.own.length g then 4 else 0) else polFault x
def askedC (x : PolM) (c : Int) : Int := if polFault x = 0 then (bif !inR c 0 1000000 then 3 else 0) else polFault x
/-! ## sums of steps -/
def stW (p : SlotM → Bool) : List SlotM → Int → Int
  | [], n => n
  | s :: r, n => stW p r (bif p s then IntKind.i64.wrap (n + s.steps) else n)
theorem stW_step (p : SlotM → Bool) (l : List SlotM) (i : Nat) (h : i < l.length) (n : Int) : stW p (l.drop i) n = stW p (l.drop (i + 1)) (bif p (l.getD i ⟨0, 0⟩) then IntKind.i64.wrap (n + (l.getD i ⟨0, 0⟩).steps) else n) := by
  rw [drop_consG ⟨0, 0⟩ l i h]; rfl
abbrev ofG (g : Int) (s : SlotM) : Bool := decide (g < 0) || s.guest == g
def roundOf (x : PolM) : Int × Int := if polFault x = 0 then (0, stW (fun _ => true) x.pln 0) else (polFault x, 0)
def framesOf (x : PolM) (g : Int) : Int × Int := if askedG x g = 0 then (0, stW (fun s => s.guest == g) x.pln 0) else (askedG x g, 0)
theorem ofG_of {x : PolM} {g : Int} (h : askedG x g = 0) : ofG g = fun s => s.guest == g := by
  unfold askedG at h
  split at h
  · cases hb : guestB x.own.length g with
    | true =>
      have := (inR_iff.1 (show inR g 0 _ = true from hb)).1
      funext s
      unfold ofG
      rw [decide_eq_false (by omega), Bool.false_or]
    | false => rw [hb] at h; simp at h
  · rename_i e; exact absurd h e
end Go.Proofs.YtojaakpnpdnbhaaGreatDoor.L

/- Policies that are drawn: contracts. -/
set_option linter.unusedVariables false
set_option linter.unusedSimpArgs false
set_option maxRecDepth 100000
namespace Go.Proofs.YtojaakpnpdnbhaaGreatDoor.L
open Go.RowKit
abbrev nil4 : List LV := [.d (.v (.slice none 0 0)), .d (.v (.slice none 0 0)), .d (.v (.slice none 0 0)), .d (.v (.slice none 0 0))]
abbrev rows4 (a b c d : Nat) : List LV := [.row a, .row b, .row c, .row d]
/-- a policy as it is drawn -/
structure PolM.drawn (x : PolM) : Prop where
  own : 1 ≤ x.own.length
  own3 : x.own.length ≤ 3
  ins : ∀ i, i < x.own.length → 1 ≤ (x.own.getD i []).length ∧ (x.own.getD i []).length ≤ 3
  lns : x.lns.length ≤ 3
  bls : x.bls.length ≤ 2
  pln : 1 ≤ x.pln.length
  pln4 : x.pln.length ≤ 4
theorem PolM.drawn.small {x : PolM} (h : x.drawn) : x.small := by
  obtain ⟨h1, h2, h3, h4, h5, h6, h7⟩ := h
  exact ⟨by omega, fun i hi => by have := h3 i hi; omega, by omega, by omega, by omega⟩
def insOK (l : List (List Int)) : Prop := ∀ i, i < l.length → 1 ≤ (l.getD i []).length ∧ (l.getD i []).length ≤ 3
theorem insOK_snoc {l : List (List Int)} {m : List Int} (h : insOK l) (h1 : 1 ≤ m.length) (h2 : m.length ≤ 3) : insOK (l ++ [m]) := by
  intro i hi
  simp only [List.length_append, List.length_cons, List.length_nil] at hi
  by_cases e : i < l.length
  · have := h i e
    simp only [List.getD] at this ⊢
    rw [List.getElem?_append_left e]
    exact this
  · have e : i = l.length := by omega
    subst e
    simp only [List.getD]
    rw [List.getElem?_append_right (Nat.le_refl _)]
    simp
    omega
theorem app_in (l : List (List Int)) (m : List Int) (j : Nat) (hj : j < l.length) : lenF l j = lenF (l ++ [m]) j ∧ ∀ q, inF l j q = inF (l ++ [m]) j q := by
  have e : (l ++ [m]).getD j [] = l.getD j [] := by simp only [List.getD]; rw [List.getElem?_append_left hj]
  exact ⟨by show (l.getD j []).length = ((l ++ [m]).getD j []).length; rw [e], fun q => by show intsF (l.getD j []) q = intsF ((l ++ [m]).getD j []) q; rw [e]⟩
theorem app_last (l : List (List Int)) (m : List Int) : (l ++ [m]).getD l.length [] = m := by simp [List.getD]
theorem LVLe.dptr {xs ys : List D} (hl : xs.length = ys.length) (h : ∀ j, j < xs.length → DLe (xs.getD j (.v undef)) (ys.getD j (.v undef))) : LVLe (.dptr xs) (.dptr ys) := fun W F v hv => by
  cases hv with
  | dptr vs hs hI hv hr => exact .dptr vs hs hI (fun j hj => hv j (by omega)) (fun j hj => h j (by omega) _ _ _ (hr j (by omega)))
theorem LVLe.dptr4 {a b c d a' b' c' d' : D} (h1 : DLe a a') (h2 : DLe b b') (h3 : DLe c c') (h4 : DLe d d') : LVLe (.dptr [a, b, c, d]) (.dptr [a', b', c', d']) := LVLe.dptr rfl fun j hj => match j, hj with
  | 0, _ => h1
  | 1, _ => h2
  | 2, _ => h3
  | 3, _ => h4
  | j + 4, hj => absurd hj (by simp)
theorem app_lane (lns : List LaneM) (z : LaneM) (g0 : Nat → List D) (q : Nat) (hq : q < lns.length + 1) : upto (0 + lns.length) (upto 0 g0 (lanesF lns)) (fun i => ([laneD z] : List (List D)).getD i []) q = lanesF (lns ++ [z]) q := by
  unfold upto
  by_cases h : q < lns.length
  · rw [if_pos (by omega), if_neg (Nat.not_lt_zero _)]
    show laneD (lns.getD (q - 0) _) = laneD ((lns ++ [z]).getD q _)
    simp only [List.getD, Nat.sub_zero]
    rw [List.getElem?_append_left h]
  · rw [if_neg (by omega)]
    obtain rfl : q = lns.length := by omega
    rw [Nat.zero_add, Nat.sub_self]
    show laneD z = laneD ((lns ++ [z]).getD lns.length _)
    simp [List.getD]
theorem app_bell (l : List BellM) (z : BellM) (q : Nat) (hq : q < l.length + 1) : upto l.length (bellsF l) (fun i => ([bellD z] : List (List D)).getD i []) q = bellsF (l ++ [z]) q := by
  unfold upto
  by_cases h : q < l.length
  · rw [if_pos h]
    show bellD (l.getD q _) = bellD ((l ++ [z]).getD q _)
    simp only [List.getD]
    rw [List.getElem?_append_left h]
  · rw [if_neg h]
    obtain rfl : q = l.length := by omega
    rw [Nat.sub_self]
    show bellD z = bellD ((l ++ [z]).getD l.length _)
    simp [List.getD]
theorem app_slot (l : List SlotM) (z : SlotM) (q : Nat) (hq : q < l.length + 1) : upto l.length (slotsF l) (fun i => ([slotD z] : List (List D)).getD i []) q = slotsF (l ++ [z]) q := by
  unfold upto
  by_cases h : q < l.length
  · rw [if_pos h]
    show slotD (l.getD q _) = slotD ((l ++ [z]).getD q _)
    simp only [List.getD]
    rw [List.getElem?_append_left h]
  · rw [if_neg h]
    obtain rfl : q = l.length := by omega
    rw [Nat.sub_self]
    show slotD z = slotD ((l ++ [z]).getD l.length _)
    simp [List.getD]
set_option maxHeartbeats 3200000 in
theorem c_spec_l6Policy (c : List Int) (hc : okCode c) (p : Int) (hp : 0 ≤ p) (hp2 : p ≤ 1099511627) : MutS Tryz.prog 57 [.ptr 0 0] 1 [(0, srcBox c p)]
    (fun lv m' hp1 => ∃ (x : PolM) (q : Int), x.drawn ∧ p ≤ q ∧ q ≤ p + 60 ∧ lv = .agg (rows4 1 2 3 4) ∧ m' = 5 ∧ hp1 = [(0, srcBox c q), (1, nestE x.own), (2, rowLane x.lns), (3, rowBell x.bls), (4, rowSlot x.pln)]) := by
  have h4 := nx_in (c := c) hc (p := p) (n := 3) (by omega) (by omega)
  have h5 := pk_mem (c := c) hc (p := p + 1) (l := [2, 3, 3, 1]) (by omega) (by simp)
  have h5 : 1 ≤ pk c (p + 1) [2, 3, 3, 1] ∧ pk c (p + 1) [2, 3, 3, 1] ≤ 3 := by
    revert h5
    generalize pk c (p + 1) [2, 3, 3, 1] = v
    intro h5
    simp at h5
    omega
  refine mutS_fn_of lv57 Tryz.func57 rfl rfl (by kernel_rfl) rfl ?_
  repeat' (first | refine bsplit_true ?_ | refine bsplit_false ?_ | (refine .inr ⟨rfl, use_mut ⟨?_, ?_, ?_, ?_, ?_, ?_, ?_, ?_, ?_, ?_, ?_⟩⟩; rotate_left 6; exact rfl; exact rfl; (first | (refine c_spec_l1Next c hc _ _ ?_ ?_ <;> (first | omega | (dsimp only; omega))) | (refine pick3 c hc _ _ _ _ ?_ ?_ <;> (first | omega | (dsimp only; omega))) | (refine pick4 c hc _ _ _ _ _ ?_ ?_ <;> (first | omega | (dsimp only; omega))) | (refine pick2 c hc _ _ _ ?_ ?_ <;> (first | omega | (dsimp only; omega))) | (refine pick6 c hc _ _ _ _ _ _ _ ?_ ?_ <;> (first | omega | (dsimp only; omega))) | (refine pick7 c hc _ _ _ _ _ _ _ _ ?_ ?_ <;> (first | omega | (dsimp only; omega))) | (refine pick5 c hc _ _ _ _ _ _ ?_ ?_ <;> (first | omega | (dsimp only; omega)))); rfl))
  refine ⟨{ x : List (List Int) × Int × Int × Int // insOK x.1 ∧ 0 ≤ x.2.2.1 ∧ 1 ≤ (x.1.length : Int) + x.2.2.1 ∧ (x.1.length : Int) + x.2.2.1 ≤ 3 ∧ p ≤ x.2.2.2 ∧ x.2.2.2 ≤ p + 2 + x.1.length }, fun x => ⟨frL [(0, .ptr 0 0), (2, .ptr 10 0), (3, .ptr 11 0), (4, di x.1.2.1), (5, di x.1.2.2.1)], hpL [(0, srcBox c x.1.2.2.2), (10, .box 27 nil4), (11, .box 27 (rows4 12 13 14 15)), (12, nestE x.1.1), (13, rowLane []), (14, rowBell []), (15, rowSlot [])], 100, 1⟩, fun x => x.1.2.2.1.toNat,
    ⟨([], nx c p 3, pk c (p + 1) [2, 3, 3, 1], p + 1 + 1), fun i hi => absurd hi (Nat.not_lt_zero _), by show 0 ≤ pk c (p + 1) [2, 3, 3, 1]; omega, by show 1 ≤ ((0 : Nat) : Int) + pk c (p + 1) [2, 3, 3, 1]; omega, by show ((0 : Nat) : Int) + pk c (p + 1) [2, 3, 3, 1] ≤ 3; omega, by show p ≤ p + 1 + 1; omega, by show p + 1 + 1 ≤ p + 2 + ((0 : Nat) : Int); omega⟩,
    Le.trans (nilBox (k := 4129) (i := 0) (t := 27) (cs := nil4) rfl rfl (nestE []) rfl rfl) (Le.trans (nilBox (k := 4129) (i := 1) (t := 27) (cs := [.row 16385, .d (.v (.slice none 0 0)), .d (.v (.slice none 0 0)), .d (.v (.slice none 0 0))]) rfl rfl (rowLane []) rfl rfl) (Le.trans (nilBox (k := 4129) (i := 2) (t := 27) (cs := [.row 16385, .row 16386, .d (.v (.slice none 0 0)), .d (.v (.slice none 0 0))]) rfl rfl (rowBell []) rfl rfl) (Le.trans (nilBox (k := 4129) (i := 3) (t := 27) (cs := [.row 16385, .row 16386, .row 16387, .d (.v (.slice none 0 0))]) rfl rfl (rowSlot []) rfl rfl)
    (le_of [(10, 1), (11, 4129), (12, 16385), (13, 16386), (14, 16387), (15, 16388)] rfl rfl rfl rfl (tellHp_box rfl rfl ⟨DLe.refl _, rfl, trivial⟩ (tellHp_box rfl rfl ⟨rfl, rfl, rfl, rfl, trivial⟩ (tellHp_box rfl rfl ⟨rfl, rfl, rfl, rfl, trivial⟩ (tellHp_nest rfl rfl rfl (fun i hi => absurd hi (Nat.not_lt_zero _)) (tellHp_row rfl rfl rfl (fun j hj => rfl) (tellHp_row rfl rfl rfl (fun j hj => rfl) (tellHp_row rfl rfl rfl (fun j hj => rfl) tellHp_nil)))))))
      (tellFr_ptr rfl rfl (tellFr_ptr rfl rfl (tellFr_ptr rfl rfl (tellFr_v rfl rfl (tellFr_v rfl rfl trivial))))))))), ?_⟩
  rintro ⟨⟨l, pg, g, q⟩, hI, hg0, hg1, hg3, hq1, hq2⟩
  simp only at hI hg0 hg1 hg3 hq1 hq2
  by_cases hg : 0 < g
  · have hn := nx_in (c := c) hc (p := q) (n := 3) (by omega) (by omega)
    have hw : IntKind.i64.wrap (1 + nx c q 3) = 1 + nx c q 3 := wrap_i64 _ (by omega) (by omega)
    have hwg : IntKind.i64.wrap (g - 1) = g - 1 := wrap_i64 _ (by omega) (by omega)
    refine bsplit_of_true (decide_eq_true (show g > 0 by omega)) ?_
    repeat' (first | refine bsplit_true ?_ | refine bsplit_false ?_ | (refine .inr ⟨rfl, use_mut ⟨?_, ?_, ?_, ?_, ?_, ?_, ?_, ?_, ?_, ?_, ?_⟩⟩; rotate_left 6; exact rfl; exact rfl; (first | (refine c_spec_l1Next c hc _ _ ?_ ?_ <;> (first | omega | (dsimp only; omega))) | (refine pick3 c hc _ _ _ _ ?_ ?_ <;> (first | omega | (dsimp only; omega))) | (refine pick4 c hc _ _ _ _ _ ?_ ?_ <;> (first | omega | (dsimp only; omega))) | (refine pick2 c hc _ _ _ ?_ ?_ <;> (first | omega | (dsimp only; omega))) | (refine pick6 c hc _ _ _ _ _ _ _ ?_ ?_ <;> (first | omega | (dsimp only; omega))) | (refine pick7 c hc _ _ _ _ _ _ _ _ ?_ ?_ <;> (first | omega | (dsimp only; omega))) | (refine pick5 c hc _ _ _ _ _ _ ?_ ?_ <;> (first | omega | (dsimp only; omega)))); rfl))
    refine ⟨{ x : List Int × Int × Int // 0 ≤ x.2.2 ∧ 1 ≤ (x.1.length : Int) + x.2.2 ∧ (x.1.length : Int) + x.2.2 ≤ 3 }, fun x => ⟨frL [(0, .ptr 0 0), (2, .ptr 10 0), (3, .ptr 11 0), (4, di x.1.2.1), (5, di g), (6, .row 16), (7, di x.1.2.2)], hpL [(0, srcBox c (q + 1)), (10, .box 27 nil4), (11, .box 27 (rows4 12 13 14 15)), (12, nestE l), (13, rowLane []), (14, rowBell []), (15, rowSlot []), (16, rowE x.1.1)], 100, 1⟩, fun x => x.1.2.2.toNat,
      ⟨([], pg, 1 + nx c q 3), by show 0 ≤ 1 + nx c q 3; omega, by show 1 ≤ ((0 : Nat) : Int) + (1 + nx c q 3); omega, by show ((0 : Nat) : Int) + (1 + nx c q 3) ≤ 3; omega⟩,
      le_of [(10, 10), (11, 11), (12, 12), (13, 13), (14, 14), (15, 15), (16, 4196)] rfl rfl rfl rfl (tellHp_box rfl rfl ⟨DLe.refl _, rfl, trivial⟩ (tellHp_box rfl rfl ⟨rfl, rfl, rfl, rfl, trivial⟩ (tellHp_box rfl rfl ⟨rfl, rfl, rfl, rfl, trivial⟩ (tellHp_nest rfl rfl rfl (fun i hi => ⟨rfl, fun j hj => rfl⟩) (tellHp_row rfl rfl rfl (fun j hj => rfl) (tellHp_row rfl rfl rfl (fun j hj => rfl) (tellHp_row rfl rfl rfl (fun j hj => rfl) (tellHp_row rfl rfl rfl (fun j hj => absurd hj (Nat.not_lt_zero _)) tellHp_nil))))))))
        (tellFr_ptr rfl rfl (tellFr_ptr rfl rfl (tellFr_ptr rfl rfl (tellFr_v rfl rfl (tellFr_v rfl rfl (tellFr_row rfl rfl (tellFr_v rfl (congrArg (Value.int .i64) hw) trivial))))))), ?_⟩
    rintro ⟨⟨m, pg, k⟩, hk0, hk1, hk3⟩
    simp only at hk0 hk1 hk3
    by_cases hk : 0 < k
    · have hwk : IntKind.i64.wrap (k - 1) = k - 1 := wrap_i64 _ (by omega) (by omega)
      have hsl : (m ++ [pg]).length = m.length + 1 := by simp
      refine bsplit_of_true (decide_eq_true (show k > 0 by omega)) ?_
      refine ask_intro ⟨by show (m.length + 1) * 8 ≤ 140737488355328; omega, by show m.length + 1 ≤ 9223372036854775807; omega, fun q hq => ?_⟩ ?_
      · obtain rfl : q = 0 := by omega
        rfl
      exact ⟨⟨(m ++ [pg], IntKind.i64.wrap (pg + 1), k - 1), by show 0 ≤ k - 1; omega, by show 1 ≤ ((m ++ [pg]).length : Int) + (k - 1); omega, by show ((m ++ [pg]).length : Int) + (k - 1) ≤ 3; omega⟩,
        le_of [(10, 10), (11, 11), (12, 12), (13, 13), (14, 14), (15, 15), (16, 4292)] rfl rfl rfl rfl (tellHp_box rfl rfl ⟨DLe.refl _, rfl, trivial⟩ (tellHp_box rfl rfl ⟨rfl, rfl, rfl, rfl, trivial⟩ (tellHp_box rfl rfl ⟨rfl, rfl, rfl, rfl, trivial⟩ (tellHp_nest rfl rfl rfl (fun i hi => ⟨rfl, fun j hj => rfl⟩) (tellHp_row rfl rfl rfl (fun j hj => rfl) (tellHp_row rfl rfl rfl (fun j hj => rfl) (tellHp_row rfl rfl rfl (fun j hj => rfl) (tellHp_row rfl rfl hsl.symm (fun q hq => upto_snoc m _ _ rfl q hq) tellHp_nil))))))))
          (tellFr_ptr rfl rfl (tellFr_ptr rfl rfl (tellFr_ptr rfl rfl (tellFr_v rfl rfl (tellFr_v rfl rfl (tellFr_row rfl rfl (tellFr_v rfl (congrArg (Value.int .i64) hwk) trivial))))))), by show (k - 1).toNat < k.toNat; omega⟩
    · have hsl : (l ++ [m]).length = l.length + 1 := by simp
      have hm1 : 1 ≤ m.length := by omega
      have hm3 : m.length ≤ 3 := by omega
      have hl3 : l.length ≤ 3 := by omega
      refine bsplit_of_false (decide_eq_false (show ¬ k > 0 by omega)) ?_
      refine ask_intro trivial ?_
      refine ask_intro ⟨by show (l.length + 1) * 24 ≤ 140737488355328; omega, by show l.length + 1 ≤ 9223372036854775807; omega, trivial⟩ ?_
      refine ⟨⟨(l ++ [m], pg, g - 1, q + 1), insOK_snoc hI hm1 hm3, by show 0 ≤ g - 1; omega, by show 1 ≤ ((l ++ [m]).length : Int) + (g - 1); omega, by show ((l ++ [m]).length : Int) + (g - 1) ≤ 3; omega, by show p ≤ q + 1; omega, by show q + 1 ≤ p + 2 + ((l ++ [m]).length : Int); omega⟩,
        le_of [(10, 10), (11, 11), (12, 4324), (13, 13), (14, 14), (15, 15)] rfl rfl rfl rfl (tellHp_box rfl rfl ⟨DLe.refl _, rfl, trivial⟩ (tellHp_box rfl rfl ⟨rfl, rfl, rfl, rfl, trivial⟩ (tellHp_box rfl rfl ⟨rfl, rfl, rfl, rfl, trivial⟩ (tellHp_hole rfl rfl rfl rfl rfl hsl.symm ⟨?_, fun j hj => ?_⟩ (fun j hj hne => ⟨?_, fun u hu => ?_⟩) (tellHp_row rfl rfl rfl (fun j hj => rfl) (tellHp_row rfl rfl rfl (fun j hj => rfl) (tellHp_row rfl rfl rfl (fun j hj => rfl) tellHp_nil)))))))
          (tellFr_ptr rfl rfl (tellFr_ptr rfl rfl (tellFr_ptr rfl rfl (tellFr_v rfl rfl (tellFr_v rfl (congrArg (Value.int .i64) hwg) trivial))))), by show (g - 1).toNat < g.toNat; omega⟩
      · show m.length = ((l ++ [m]).getD l.length []).length
        rw [app_last]
      · show intsF m j = intsF ((l ++ [m]).getD l.length []) j
        rw [app_last]
      · have hj : j < l.length + 1 := hj
        have hne : j ≠ l.length := hne
        show (if j < l.length then lenF l j else 0) = _
        rw [if_pos (by omega)]
        exact (app_in l m j (by omega)).1
      · have hj : j < l.length + 1 := hj
        have hne : j ≠ l.length := hne
        show (if j < l.length then inF l j else fun _ => []) u = _
        rw [if_pos (by omega)]
        exact (app_in l m j (by omega)).2 u
  · have hl0 : 1 ≤ l.length := by omega
    have hl3 : l.length ≤ 3 := by omega
    refine bsplit_of_false (decide_eq_false (show ¬ g > 0 by omega)) ?_
    have hn4 := nx_in (c := c) hc (p := q) (n := 4) (by omega) (by omega)
    refine ask_intro trivial ?_
    repeat' (first | refine bsplit_true ?_ | refine bsplit_false ?_ | (refine .inr ⟨rfl, use_mut ⟨?_, ?_, ?_, ?_, ?_, ?_, ?_, ?_, ?_, ?_, ?_⟩⟩; rotate_left 6; exact rfl; exact rfl; (first | (refine c_spec_l1Next c hc _ _ ?_ ?_ <;> (first | omega | (dsimp only; omega))) | (refine pick3 c hc _ _ _ _ ?_ ?_ <;> (first | omega | (dsimp only; omega))) | (refine pick4 c hc _ _ _ _ _ ?_ ?_ <;> (first | omega | (dsimp only; omega))) | (refine pick2 c hc _ _ _ ?_ ?_ <;> (first | omega | (dsimp only; omega))) | (refine pick6 c hc _ _ _ _ _ _ _ ?_ ?_ <;> (first | omega | (dsimp only; omega))) | (refine pick7 c hc _ _ _ _ _ _ _ _ ?_ ?_ <;> (first | omega | (dsimp only; omega))) | (refine pick5 c hc _ _ _ _ _ _ ?_ ?_ <;> (first | omega | (dsimp only; omega)))); rfl))
    refine ⟨{ x : List LaneM × Int × Int × Int // 0 ≤ x.2.2.1 ∧ (x.1.length : Int) + x.2.2.1 ≤ 3 ∧ p ≤ x.2.2.2 ∧ x.2.2.2 + 4 * x.2.2.1 ≤ p + 18 }, fun x => ⟨frL [(0, .ptr 0 0), (2, .ptr 10 0), (3, .ptr 11 0), (4, di x.1.2.1), (8, di l.length), (9, di x.1.2.2.1)], hpL [(0, srcBox c x.1.2.2.2), (10, .box 27 nil4), (11, .box 27 (rows4 12 13 14 15)), (12, nestE l), (13, rowLane x.1.1), (14, rowBell []), (15, rowSlot [])], 100, 1⟩, fun x => x.1.2.2.1.toNat,
      ⟨([], pg, nx c q 4, q + 1), by show 0 ≤ nx c q 4; omega, by show ((0 : Nat) : Int) + nx c q 4 ≤ 3; omega, by show p ≤ q + 1; omega, by show q + 1 + 4 * nx c q 4 ≤ p + 18; omega⟩,
      le_of [(10, 10), (11, 11), (12, 12), (13, 13), (14, 14), (15, 15)] rfl rfl rfl rfl (tellHp_box rfl rfl ⟨DLe.refl _, rfl, trivial⟩ (tellHp_box rfl rfl ⟨rfl, rfl, rfl, rfl, trivial⟩ (tellHp_box rfl rfl ⟨rfl, rfl, rfl, rfl, trivial⟩ (tellHp_nest rfl rfl rfl (fun i hi => ⟨rfl, fun j hj => rfl⟩) (tellHp_row rfl rfl rfl (fun j hj => rfl) (tellHp_row rfl rfl rfl (fun j hj => rfl) (tellHp_row rfl rfl rfl (fun j hj => rfl) tellHp_nil)))))))
        (tellFr_ptr rfl rfl (tellFr_ptr rfl rfl (tellFr_ptr rfl rfl (tellFr_v rfl rfl (tellFr_v rfl rfl (tellFr_v rfl rfl trivial)))))), ?_⟩
    clear hn4
    rintro ⟨⟨lns, pg, k, q⟩, hk0, hk3, hq1, hq2⟩
    simp only at hk0 hk3 hq1 hq2
    by_cases hk : 0 < k
    · have hwk : IntKind.i64.wrap (k - 1) = k - 1 := wrap_i64 _ (by omega) (by omega)
      obtain ⟨z, hz⟩ : ∃ z : LaneM, z = ⟨nx c q l.length, nx c (q + 1) l.length, pg, IntKind.i64.wrap (5 + nx c (q + 1 + 1) 2), IntKind.i64.wrap (5 + nx c (q + 1 + 1 + 1) 2)⟩ := ⟨_, rfl⟩
      have hsl : (lns ++ [z]).length = lns.length + 1 := by simp
      have hx : PolM.small ⟨l, lns ++ [z], [], []⟩ := ⟨by show l.length * 24 ≤ 140737488355328; omega, fun i hi => by have := hI i hi; show (l.getD i []).length * 8 ≤ 140737488355328; omega, by show (lns ++ [z]).length * 40 ≤ 140737488355328; omega, by show (0 : Nat) * 16 ≤ 140737488355328; omega, by show (0 : Nat) * 16 ≤ 140737488355328; omega⟩
      have c1 := c_spec_l6Owns ⟨l, lns ++ [z], [], []⟩ hx
      have c2 := c_spec_l6Lanes ⟨l, lns ++ [z], [], []⟩ hx
      have hld := fun (g0 : Nat → List D) => app_lane lns z g0
      rw [hz] at hld
      have hle : ∀ g0, DLe (.l (0 + lns.length + 1) (upto (0 + lns.length) (upto 0 g0 (lanesF lns)) (fun i => ([laneD ⟨nx c q l.length, nx c (q + 1) l.length, pg, IntKind.i64.wrap (5 + nx c (q + 1 + 1) 2), IntKind.i64.wrap (5 + nx c (q + 1 + 1 + 1) 2)⟩] : List (List D)).getD i []))) (lanes (lns ++ [z])) := fun g0 => DLe.l (by rw [hsl]; omega) fun i hi => by rw [hz]; exact hld g0 i (by omega)
      have hld2 : ∀ (g0 : Nat → List D) (i : Nat), i < lns.length + 1 → upto (0 + lns.length) (upto 0 g0 (lanesF lns)) (fun i => ([laneD ⟨nx c q l.length, nx c (q + 1) l.length, pg, IntKind.i64.wrap (5 + nx c (q + 1 + 1) 2), IntKind.i64.wrap (5 + nx c (q + 1 + 1 + 1) 2)⟩] : List (List D)).getD i []) i = lanesF (lns ++ [z]) i := fun g0 i hi => by rw [hz]; exact hld g0 i hi
      obtain ⟨v1, hv1⟩ : ∃ v1, v1 = ownBad (PolM.own ⟨l, lns ++ [z], [], []⟩) := ⟨_, rfl⟩
      obtain ⟨v2, hv2⟩ : ∃ v2, v2 = lanesFault ⟨l, lns ++ [z], [], []⟩ := ⟨_, rfl⟩
      rw [← hv1] at c1
      rw [← hv2] at c2
      refine bsplit_of_true (decide_eq_true (show k > 0 by omega)) ?_
      refine ask_intro ⟨by show (0 + lns.length) * 40 ≤ 140737488355328; omega, by show 0 + lns.length ≤ 9223372036854775807; omega, fun i hi => rfl⟩ ?_
      repeat' (first | refine bsplit_true ?_ | refine bsplit_false ?_ | (refine .inr ⟨rfl, use_mut ⟨?_, ?_, ?_, ?_, ?_, ?_, ?_, ?_, ?_, ?_, ?_⟩⟩; rotate_left 6; exact rfl; exact rfl; (first | (refine c_spec_l1Next c hc _ _ ?_ ?_ <;> (first | omega | (dsimp only; omega))) | (refine pick3 c hc _ _ _ _ ?_ ?_ <;> (first | omega | (dsimp only; omega))) | (refine pick4 c hc _ _ _ _ _ ?_ ?_ <;> (first | omega | (dsimp only; omega))) | (refine pick2 c hc _ _ _ ?_ ?_ <;> (first | omega | (dsimp only; omega))) | (refine pick6 c hc _ _ _ _ _ _ _ ?_ ?_ <;> (first | omega | (dsimp only; omega))) | (refine pick7 c hc _ _ _ _ _ _ _ _ ?_ ?_ <;> (first | omega | (dsimp only; omega))) | (refine pick5 c hc _ _ _ _ _ _ ?_ ?_ <;> (first | omega | (dsimp only; omega)))); rfl))
      refine ask_intro ⟨by show (0 + lns.length + 1) * 40 ≤ 140737488355328; omega, by show 0 + lns.length + 1 ≤ 9223372036854775807; omega, fun i hi => ?_⟩ ?_
      · obtain rfl : i = 0 := by omega
        rfl
      refine .inl ⟨_, _, rfl, c1.weak ⟨LVLe.dptr4 (DLe.refl _) (hle _) (DLe.refl _) (DLe.refl _), trivial⟩, rfl, ?_⟩
      refine bsplit_intro (fun e1 => ?_) (fun e1 => ?_)
      · refine .inl ⟨_, _, rfl, c2.weak ⟨LVLe.dptr4 (DLe.refl _) (hle _) (DLe.refl _) (DLe.refl _), trivial⟩, rfl, ?_⟩
        repeat' (first | refine bsplit_true ?_ | refine bsplit_false ?_)
        refine bsplit_intro (fun e2 => ?_) (fun e2 => ?_)
        · exact ⟨⟨(lns ++ [z], IntKind.i64.wrap (pg + 1), k - 1, q + 1 + 1 + 1 + 1), by show 0 ≤ k - 1; omega, by show ((lns ++ [z]).length : Int) + (k - 1) ≤ 3; omega, by show p ≤ q + 1 + 1 + 1 + 1; omega, by show q + 1 + 1 + 1 + 1 + 4 * (k - 1) ≤ p + 18; omega⟩,
            le_of [(10, 10), (11, 11), (12, 12), (13, 8900), (14, 14), (15, 15)] rfl rfl rfl rfl (tellHp_box rfl rfl ⟨DLe.refl _, rfl, trivial⟩ (tellHp_box rfl rfl ⟨rfl, rfl, rfl, rfl, trivial⟩ (tellHp_box rfl rfl ⟨rfl, rfl, rfl, rfl, trivial⟩ (tellHp_nest rfl rfl rfl (fun i hi => ⟨rfl, fun j hj => rfl⟩) (tellHp_row rfl rfl (show 0 + lns.length + 1 = (lns ++ [z]).length by rw [hsl]; omega) (fun i hi => hld2 _ i (by have hi : i < 0 + lns.length + 1 := hi; omega)) (tellHp_row rfl rfl rfl (fun j hj => rfl) (tellHp_row rfl rfl rfl (fun j hj => rfl) tellHp_nil)))))))
              (tellFr_ptr rfl rfl (tellFr_ptr rfl rfl (tellFr_ptr rfl rfl (tellFr_v rfl rfl (tellFr_v rfl rfl (tellFr_v rfl (congrArg (Value.int .i64) hwk) trivial)))))), by show (k - 1).toNat < k.toNat; omega⟩
        · exact ⟨⟨(lns, pg, k - 1, q + 1 + 1 + 1 + 1), by show 0 ≤ k - 1; omega, by show (lns.length : Int) + (k - 1) ≤ 3; omega, by show p ≤ q + 1 + 1 + 1 + 1; omega, by show q + 1 + 1 + 1 + 1 + 4 * (k - 1) ≤ p + 18; omega⟩,
          le_of [(10, 10), (11, 11), (12, 12), (13, 13), (14, 14), (15, 15)] rfl rfl rfl rfl (tellHp_box rfl rfl ⟨DLe.refl _, rfl, trivial⟩ (tellHp_box rfl rfl ⟨rfl, rfl, rfl, rfl, trivial⟩ (tellHp_box rfl rfl ⟨rfl, rfl, rfl, rfl, trivial⟩ (tellHp_nest rfl rfl rfl (fun i hi => ⟨rfl, fun j hj => rfl⟩) (tellHp_row rfl rfl rfl (fun j hj => rfl) (tellHp_row rfl rfl rfl (fun j hj => rfl) (tellHp_row rfl rfl rfl (fun j hj => rfl) tellHp_nil)))))))
            (tellFr_ptr rfl rfl (tellFr_ptr rfl rfl (tellFr_ptr rfl rfl (tellFr_v rfl rfl (tellFr_v rfl rfl (tellFr_v rfl (congrArg (Value.int .i64) hwk) trivial)))))), by show (k - 1).toNat < k.toNat; omega⟩
      · repeat' (first | refine bsplit_true ?_ | refine bsplit_false ?_)
        exact ⟨⟨(lns, pg, k - 1, q + 1 + 1 + 1 + 1), by show 0 ≤ k - 1; omega, by show (lns.length : Int) + (k - 1) ≤ 3; omega, by show p ≤ q + 1 + 1 + 1 + 1; omega, by show q + 1 + 1 + 1 + 1 + 4 * (k - 1) ≤ p + 18; omega⟩,
          le_of [(10, 10), (11, 11), (12, 12), (13, 13), (14, 14), (15, 15)] rfl rfl rfl rfl (tellHp_box rfl rfl ⟨DLe.refl _, rfl, trivial⟩ (tellHp_box rfl rfl ⟨rfl, rfl, rfl, rfl, trivial⟩ (tellHp_box rfl rfl ⟨rfl, rfl, rfl, rfl, trivial⟩ (tellHp_nest rfl rfl rfl (fun i hi => ⟨rfl, fun j hj => rfl⟩) (tellHp_row rfl rfl rfl (fun j hj => rfl) (tellHp_row rfl rfl rfl (fun j hj => rfl) (tellHp_row rfl rfl rfl (fun j hj => rfl) tellHp_nil)))))))
            (tellFr_ptr rfl rfl (tellFr_ptr rfl rfl (tellFr_ptr rfl rfl (tellFr_v rfl rfl (tellFr_v rfl rfl (tellFr_v rfl (congrArg (Value.int .i64) hwk) trivial)))))), by show (k - 1).toNat < k.toNat; omega⟩
    · refine bsplit_of_false (decide_eq_false (show ¬ k > 0 by omega)) ?_
      have hn3 := nx_in (c := c) hc (p := q) (n := 3) (by omega) (by omega)
      have hL3 : lns.length ≤ 3 := by omega
      repeat' (first | refine bsplit_true ?_ | refine bsplit_false ?_ | (refine .inr ⟨rfl, use_mut ⟨?_, ?_, ?_, ?_, ?_, ?_, ?_, ?_, ?_, ?_, ?_⟩⟩; rotate_left 6; exact rfl; exact rfl; (first | (refine c_spec_l1Next c hc _ _ ?_ ?_ <;> (first | omega | (dsimp only; omega))) | (refine pick3 c hc _ _ _ _ ?_ ?_ <;> (first | omega | (dsimp only; omega))) | (refine pick4 c hc _ _ _ _ _ ?_ ?_ <;> (first | omega | (dsimp only; omega))) | (refine pick2 c hc _ _ _ ?_ ?_ <;> (first | omega | (dsimp only; omega))) | (refine pick6 c hc _ _ _ _ _ _ _ ?_ ?_ <;> (first | omega | (dsimp only; omega))) | (refine pick7 c hc _ _ _ _ _ _ _ _ ?_ ?_ <;> (first | omega | (dsimp only; omega))) | (refine pick5 c hc _ _ _ _ _ _ ?_ ?_ <;> (first | omega | (dsimp only; omega)))); rfl))
      refine ⟨{ x : List BellM × Int × Int // 0 ≤ x.2.1 ∧ (x.1.length : Int) + x.2.1 ≤ 2 ∧ p ≤ x.2.2 ∧ x.2.2 + 2 * x.2.1 ≤ p + 23 }, fun x => ⟨frL [(0, .ptr 0 0), (2, .ptr 10 0), (3, .ptr 11 0), (8, di l.length), (11, di x.1.2.1)], hpL [(0, srcBox c x.1.2.2), (10, .box 27 nil4), (11, .box 27 (rows4 12 13 14 15)), (12, nestE l), (13, rowLane lns), (14, rowBell x.1.1), (15, rowSlot [])], 100, 1⟩, fun x => x.1.2.1.toNat,
        ⟨([], nx c q 3, q + 1), by show 0 ≤ nx c q 3; omega, by show ((0 : Nat) : Int) + nx c q 3 ≤ 2; omega, by show p ≤ q + 1; omega, by show q + 1 + 2 * nx c q 3 ≤ p + 23; omega⟩,
        le_of [(10, 10), (11, 11), (12, 12), (13, 13), (14, 14), (15, 15)] rfl rfl rfl rfl (tellHp_box rfl rfl ⟨DLe.refl _, rfl, trivial⟩ (tellHp_box rfl rfl ⟨rfl, rfl, rfl, rfl, trivial⟩ (tellHp_box rfl rfl ⟨rfl, rfl, rfl, rfl, trivial⟩ (tellHp_nest rfl rfl rfl (fun i hi => ⟨rfl, fun j hj => rfl⟩) (tellHp_row rfl rfl rfl (fun j hj => rfl) (tellHp_row rfl rfl rfl (fun j hj => rfl) (tellHp_row rfl rfl rfl (fun j hj => rfl) tellHp_nil)))))))
          (tellFr_ptr rfl rfl (tellFr_ptr rfl rfl (tellFr_ptr rfl rfl (tellFr_v rfl rfl (tellFr_v rfl rfl trivial))))), ?_⟩
      clear hn3
      rintro ⟨⟨bls, k, q⟩, hk0, hk3, hq1, hq2⟩
      simp only at hk0 hk3 hq1 hq2
      by_cases hk : 0 < k
      · have hwk : IntKind.i64.wrap (k - 1) = k - 1 := wrap_i64 _ (by omega) (by omega)
        have hz := app_bell bls ⟨nx c q l.length, nx c (q + 1) l.length⟩
        have hsl : (bls ++ [(⟨nx c q l.length, nx c (q + 1) l.length⟩ : BellM)]).length = bls.length + 1 := by simp
        refine bsplit_of_true (decide_eq_true (show k > 0 by omega)) ?_
        repeat' (first | refine bsplit_true ?_ | refine bsplit_false ?_ | (refine .inr ⟨rfl, use_mut ⟨?_, ?_, ?_, ?_, ?_, ?_, ?_, ?_, ?_, ?_, ?_⟩⟩; rotate_left 6; exact rfl; exact rfl; (first | (refine c_spec_l1Next c hc _ _ ?_ ?_ <;> (first | omega | (dsimp only; omega))) | (refine pick3 c hc _ _ _ _ ?_ ?_ <;> (first | omega | (dsimp only; omega))) | (refine pick4 c hc _ _ _ _ _ ?_ ?_ <;> (first | omega | (dsimp only; omega))) | (refine pick2 c hc _ _ _ ?_ ?_ <;> (first | omega | (dsimp only; omega))) | (refine pick6 c hc _ _ _ _ _ _ _ ?_ ?_ <;> (first | omega | (dsimp only; omega))) | (refine pick7 c hc _ _ _ _ _ _ _ _ ?_ ?_ <;> (first | omega | (dsimp only; omega))) | (refine pick5 c hc _ _ _ _ _ _ ?_ ?_ <;> (first | omega | (dsimp only; omega)))); rfl))
        refine bsplit_intro (fun e1 => ?_) (fun e1 => ?_)
        · repeat' (first | refine bsplit_true ?_ | refine bsplit_false ?_)
          refine bsplit_intro (fun e2 => ?_) (fun e2 => ?_)
          · refine ask_intro ⟨by show (bls.length + 1) * 16 ≤ 140737488355328; omega, by show bls.length + 1 ≤ 9223372036854775807; omega, fun i hi => ?_⟩ ?_
            · obtain rfl : i = 0 := by omega
              rfl
            exact ⟨⟨(bls ++ [(⟨nx c q l.length, nx c (q + 1) l.length⟩ : BellM)], k - 1, q + 1 + 1), by show 0 ≤ k - 1; omega, by show ((bls ++ [(⟨nx c q l.length, nx c (q + 1) l.length⟩ : BellM)]).length : Int) + (k - 1) ≤ 2; omega, by show p ≤ q + 1 + 1; omega, by show q + 1 + 1 + 2 * (k - 1) ≤ p + 23; omega⟩,
              le_of [(10, 10), (11, 11), (12, 12), (13, 13), (14, 12516), (15, 15)] rfl rfl rfl rfl (tellHp_box rfl rfl ⟨DLe.refl _, rfl, trivial⟩ (tellHp_box rfl rfl ⟨rfl, rfl, rfl, rfl, trivial⟩ (tellHp_box rfl rfl ⟨rfl, rfl, rfl, rfl, trivial⟩ (tellHp_nest rfl rfl rfl (fun i hi => ⟨rfl, fun j hj => rfl⟩) (tellHp_row rfl rfl rfl (fun j hj => rfl) (tellHp_row rfl rfl hsl.symm (fun i hi => hz i hi) (tellHp_row rfl rfl rfl (fun j hj => rfl) tellHp_nil)))))))
                (tellFr_ptr rfl rfl (tellFr_ptr rfl rfl (tellFr_ptr rfl rfl (tellFr_v rfl rfl (tellFr_v rfl (congrArg (Value.int .i64) hwk) trivial))))), by show (k - 1).toNat < k.toNat; omega⟩
          · exact ⟨⟨(bls, k - 1, q + 1 + 1), by show 0 ≤ k - 1; omega, by show (bls.length : Int) + (k - 1) ≤ 2; omega, by show p ≤ q + 1 + 1; omega, by show q + 1 + 1 + 2 * (k - 1) ≤ p + 23; omega⟩,
            le_of [(10, 10), (11, 11), (12, 12), (13, 13), (14, 14), (15, 15)] rfl rfl rfl rfl (tellHp_box rfl rfl ⟨DLe.refl _, rfl, trivial⟩ (tellHp_box rfl rfl ⟨rfl, rfl, rfl, rfl, trivial⟩ (tellHp_box rfl rfl ⟨rfl, rfl, rfl, rfl, trivial⟩ (tellHp_nest rfl rfl rfl (fun i hi => ⟨rfl, fun j hj => rfl⟩) (tellHp_row rfl rfl rfl (fun j hj => rfl) (tellHp_row rfl rfl rfl (fun j hj => rfl) (tellHp_row rfl rfl rfl (fun j hj => rfl) tellHp_nil)))))))
              (tellFr_ptr rfl rfl (tellFr_ptr rfl rfl (tellFr_ptr rfl rfl (tellFr_v rfl rfl (tellFr_v rfl (congrArg (Value.int .i64) hwk) trivial))))), by show (k - 1).toNat < k.toNat; omega⟩
        · repeat' (first | refine bsplit_true ?_ | refine bsplit_false ?_)
          exact ⟨⟨(bls, k - 1, q + 1 + 1), by show 0 ≤ k - 1; omega, by show (bls.length : Int) + (k - 1) ≤ 2; omega, by show p ≤ q + 1 + 1; omega, by show q + 1 + 1 + 2 * (k - 1) ≤ p + 23; omega⟩,
            le_of [(10, 10), (11, 11), (12, 12), (13, 13), (14, 14), (15, 15)] rfl rfl rfl rfl (tellHp_box rfl rfl ⟨DLe.refl _, rfl, trivial⟩ (tellHp_box rfl rfl ⟨rfl, rfl, rfl, rfl, trivial⟩ (tellHp_box rfl rfl ⟨rfl, rfl, rfl, rfl, trivial⟩ (tellHp_nest rfl rfl rfl (fun i hi => ⟨rfl, fun j hj => rfl⟩) (tellHp_row rfl rfl rfl (fun j hj => rfl) (tellHp_row rfl rfl rfl (fun j hj => rfl) (tellHp_row rfl rfl rfl (fun j hj => rfl) tellHp_nil)))))))
              (tellFr_ptr rfl rfl (tellFr_ptr rfl rfl (tellFr_ptr rfl rfl (tellFr_v rfl rfl (tellFr_v rfl (congrArg (Value.int .i64) hwk) trivial))))), by show (k - 1).toNat < k.toNat; omega⟩
      · refine bsplit_of_false (decide_eq_false (show ¬ k > 0 by omega)) ?_
        have hn4 := nx_in (c := c) hc (p := q) (n := 4) (by omega) (by omega)
        have hB2 : bls.length ≤ 2 := by omega
        have hw : IntKind.i64.wrap (1 + nx c q 4) = 1 + nx c q 4 := wrap_i64 _ (by omega) (by omega)
        repeat' (first | refine bsplit_true ?_ | refine bsplit_false ?_ | (refine .inr ⟨rfl, use_mut ⟨?_, ?_, ?_, ?_, ?_, ?_, ?_, ?_, ?_, ?_, ?_⟩⟩; rotate_left 6; exact rfl; exact rfl; (first | (refine c_spec_l1Next c hc _ _ ?_ ?_ <;> (first | omega | (dsimp only; omega))) | (refine pick3 c hc _ _ _ _ ?_ ?_ <;> (first | omega | (dsimp only; omega))) | (refine pick4 c hc _ _ _ _ _ ?_ ?_ <;> (first | omega | (dsimp only; omega))) | (refine pick2 c hc _ _ _ ?_ ?_ <;> (first | omega | (dsimp only; omega))) | (refine pick6 c hc _ _ _ _ _ _ _ ?_ ?_ <;> (first | omega | (dsimp only; omega))) | (refine pick7 c hc _ _ _ _ _ _ _ _ ?_ ?_ <;> (first | omega | (dsimp only; omega))) | (refine pick5 c hc _ _ _ _ _ _ ?_ ?_ <;> (first | omega | (dsimp only; omega)))); rfl))
        refine ⟨{ x : List SlotM × Int × Int // 0 ≤ x.2.1 ∧ 1 ≤ (x.1.length : Int) + x.2.1 ∧ (x.1.length : Int) + x.2.1 ≤ 4 ∧ p ≤ x.2.2 ∧ x.2.2 + 2 * x.2.1 ≤ p + 32 }, fun x => ⟨frL [(0, .ptr 0 0), (2, .ptr 10 0), (3, .ptr 11 0), (8, di l.length), (13, di x.1.2.1)], hpL [(0, srcBox c x.1.2.2), (10, .box 27 nil4), (11, .box 27 (rows4 12 13 14 15)), (12, nestE l), (13, rowLane lns), (14, rowBell bls), (15, rowSlot x.1.1)], 100, 1⟩, fun x => x.1.2.1.toNat,
          ⟨([], 1 + nx c q 4, q + 1), by show 0 ≤ 1 + nx c q 4; omega, by show 1 ≤ ((0 : Nat) : Int) + (1 + nx c q 4); omega, by show ((0 : Nat) : Int) + (1 + nx c q 4) ≤ 4; omega, by show p ≤ q + 1; omega, by show q + 1 + 2 * (1 + nx c q 4) ≤ p + 32; omega⟩,
          le_of [(10, 10), (11, 11), (12, 12), (13, 13), (14, 14), (15, 15)] rfl rfl rfl rfl (tellHp_box rfl rfl ⟨DLe.refl _, rfl, trivial⟩ (tellHp_box rfl rfl ⟨rfl, rfl, rfl, rfl, trivial⟩ (tellHp_box rfl rfl ⟨rfl, rfl, rfl, rfl, trivial⟩ (tellHp_nest rfl rfl rfl (fun i hi => ⟨rfl, fun j hj => rfl⟩) (tellHp_row rfl rfl rfl (fun j hj => rfl) (tellHp_row rfl rfl rfl (fun j hj => rfl) (tellHp_row rfl rfl rfl (fun j hj => rfl) tellHp_nil)))))))
            (tellFr_ptr rfl rfl (tellFr_ptr rfl rfl (tellFr_ptr rfl rfl (tellFr_v rfl rfl (tellFr_v rfl (congrArg (Value.int .i64) hw) trivial))))), ?_⟩
        clear hn4 hw
        rintro ⟨⟨pln, k, q⟩, hk0, hk1, hk3, hq1, hq2⟩
        simp only at hk0 hk1 hk3 hq1 hq2
        by_cases hk : 0 < k
        · have hwk : IntKind.i64.wrap (k - 1) = k - 1 := wrap_i64 _ (by omega) (by omega)
          have hz := app_slot pln ⟨nx c q l.length, IntKind.i64.wrap (1 + nx c (q + 1) 9)⟩
          have hsl : (pln ++ [(⟨nx c q l.length, IntKind.i64.wrap (1 + nx c (q + 1) 9)⟩ : SlotM)]).length = pln.length + 1 := by simp
          refine bsplit_of_true (decide_eq_true (show k > 0 by omega)) ?_
          refine .inr ⟨_, _, use_mut ⟨_, _, _, _, _, _, rfl, rfl, c_spec_l1Next c hc q l.length (by omega) (by omega), rfl, ⟨rfl, rfl⟩⟩, ?_⟩
          refine .inr ⟨_, _, use_mut ⟨_, _, _, _, _, _, rfl, rfl, c_spec_l1Next c hc (q + 1) 9 (by omega) (by omega), rfl, ⟨rfl, rfl⟩⟩, ?_⟩
          refine ask_intro ⟨by show (pln.length + 1) * 16 ≤ 140737488355328; omega, by show pln.length + 1 ≤ 9223372036854775807; omega, fun i hi => ?_⟩ ?_
          · obtain rfl : i = 0 := by omega
            rfl
          refine chk_intro (by kernel_rfl) ?_
          exact ⟨⟨(pln ++ [(⟨nx c q l.length, IntKind.i64.wrap (1 + nx c (q + 1) 9)⟩ : SlotM)], k - 1, q + 1 + 1), by show 0 ≤ k - 1; omega, by show 1 ≤ ((pln ++ [(⟨nx c q l.length, IntKind.i64.wrap (1 + nx c (q + 1) 9)⟩ : SlotM)]).length : Int) + (k - 1); omega, by show ((pln ++ [(⟨nx c q l.length, IntKind.i64.wrap (1 + nx c (q + 1) 9)⟩ : SlotM)]).length : Int) + (k - 1) ≤ 4; omega, by show p ≤ q + 1 + 1; omega, by show q + 1 + 1 + 2 * (k - 1) ≤ p + 32; omega⟩,
            le_of [(10, 10), (11, 11), (12, 12), (13, 13), (14, 14), (15, 4516)] rfl rfl rfl rfl (tellHp_box rfl rfl ⟨DLe.refl _, rfl, trivial⟩ (tellHp_box rfl rfl ⟨rfl, rfl, rfl, rfl, trivial⟩ (tellHp_box rfl rfl ⟨rfl, rfl, rfl, rfl, trivial⟩ (tellHp_nest rfl rfl rfl (fun i hi => ⟨rfl, fun j hj => rfl⟩) (tellHp_row rfl rfl rfl (fun j hj => rfl) (tellHp_row rfl rfl rfl (fun j hj => rfl) (tellHp_row rfl rfl hsl.symm (fun i hi => hz i hi) tellHp_nil)))))))
              (tellFr_ptr rfl rfl (tellFr_ptr rfl rfl (tellFr_ptr rfl rfl (tellFr_v rfl rfl (tellFr_v rfl (congrArg (Value.int .i64) hwk) trivial))))), by show (k - 1).toNat < k.toNat; omega⟩
        · refine bsplit_of_false (decide_eq_false (show ¬ k > 0 by omega)) ?_
          exact ⟨_, _, _, [(1, 12), (2, 13), (3, 14), (4, 15)], ⟨⟨l, lns, bls, pln⟩, q, ⟨hl0, hl3, hI, hL3, hB2, by show 1 ≤ pln.length; omega, by show pln.length ≤ 4; omega⟩, by omega, by omega, rfl, rfl, rfl⟩,
            chk_intro (by kernel_rfl) ⟨⟨rfl, rfl, rfl, rfl, trivial⟩, tellHp_box rfl rfl ⟨DLe.refl _, rfl, trivial⟩ (tellHp_nest rfl rfl rfl (fun i hi => ⟨rfl, fun j hj => rfl⟩) (tellHp_row rfl rfl rfl (fun j hj => rfl) (tellHp_row rfl rfl rfl (fun j hj => rfl) (tellHp_row rfl rfl rfl (fun j hj => rfl) tellHp_nil))))⟩⟩
end Go.Proofs.YtojaakpnpdnbhaaGreatDoor.L
