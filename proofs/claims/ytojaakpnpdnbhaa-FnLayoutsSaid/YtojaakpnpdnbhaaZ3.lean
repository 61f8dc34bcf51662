/- The law FnLayouts answers true at every input that its statement lets in. -/
import Derived.Test.YtojaakpnpdnbhaaMc
import Derived.Test.YtojaakpnpdnbhaaMd
import Derived.Test.YtojaakpnpdnbhaaRows
import Derived.Test.YtojaakpnpdnbhaaZ1
import Derived.Test.YtojaakpnpdnbhaaZ2
/- Policies that are drawn: contracts. -/
set_option linter.unusedVariables false
set_option linter.unusedSimpArgs false
set_option maxRecDepth 100000
namespace Go.Proofs.Ytojaakpnpdnbhaa.L
open Go.RowKit
abbrev nil4 : List LV := [.d (.v (.slice none 0 0)), .d (.v (.slice none 0 0)), .d (.v (.slice none 0 0)), .d (.v (.slice none 0 0))]
abbrev rows4 (a b c d : Nat) : List LV := [.row a, .row b, .row c, .row d]
/-- a policy as it is drawn -/
structure PolM.drawn (x : PolM) : Prop where
  own : 1 ≤ x.own.length
  own3 : x.own.length ≤ 3
  ins : ∀ i, i < x.own.length → 1 ≤ (x.own.getD i []).length ∧ (x.own.getD i []).length ≤ 3
  lns : x.lns.length ≤ 3
  bls : x.bls.length ≤ 2
  pln : 1 ≤ x.pln.length
  pln4 : x.pln.length ≤ 4
theorem PolM.drawn.small {x : PolM} (h : x.drawn) : x.small := by
  obtain ⟨h1, h2, h3, h4, h5, h6, h7⟩ := h
  exact ⟨by omega, fun i hi => by have := h3 i hi; omega, by omega, by omega, by omega⟩
def insOK (l : List (List Int)) : Prop := ∀ i, i < l.length → 1 ≤ (l.getD i []).length ∧ (l.getD i []).length ≤ 3
theorem insOK_snoc {l : List (List Int)} {m : List Int} (h : insOK l) (h1 : 1 ≤ m.length) (h2 : m.length ≤ 3) : insOK (l ++ [m]) := by
  intro i hi
  simp only [List.length_append, List.length_cons, List.length_nil] at hi
  by_cases e : i < l.length
  · have := h i e
    simp only [List.getD] at this ⊢
    rw [List.getElem?_append_left e]
    exact this
  · have e : i = l.length := by omega
    subst e
    simp only [List.getD]
    rw [List.getElem?_append_right (Nat.le_refl _)]
    simp
    omega
theorem app_in (l : List (List Int)) (m : List Int) (j : Nat) (hj : j < l.length) : lenF l j = lenF (l ++ [m]) j ∧ ∀ q, inF l j q = inF (l ++ [m]) j q := by
  have e : (l ++ [m]).getD j [] = l.getD j [] := by simp only [List.getD]; rw [List.getElem?_append_left hj]
  exact ⟨by show (l.getD j []).length = ((l ++ [m]).getD j []).length; rw [e], fun q => by show intsF (l.getD j []) q = intsF ((l ++ [m]).getD j []) q; rw [e]⟩
theorem app_last (l : List (List Int)) (m : List Int) : (l ++ [m]).getD l.length [] = m := by simp [List.getD]
theorem LVLe.dptr {xs ys : List D} (hl : xs.length = ys.length) (h : ∀ j, j < xs.length → DLe (xs.getD j (.v undef)) (ys.getD j (.v undef))) : LVLe (.dptr xs) (.dptr ys) := fun W F v hv => by
  cases hv with
  | dptr vs hs hI hv hr => exact .dptr vs hs hI (fun j hj => hv j (by omega)) (fun j hj => h j (by omega) _ _ _ (hr j (by omega)))
theorem LVLe.dptr4 {a b c d a' b' c' d' : D} (h1 : DLe a a') (h2 : DLe b b') (h3 : DLe c c') (h4 : DLe d d') : LVLe (.dptr [a, b, c, d]) (.dptr [a', b', c', d']) := LVLe.dptr rfl fun j hj => match j, hj with
  | 0, _ => h1
  | 1, _ => h2
  | 2, _ => h3
  | 3, _ => h4
  | j + 4, hj => absurd hj (by simp)
theorem app_lane (lns : List LaneM) (z : LaneM) (g0 : Nat → List D) (q : Nat) (hq : q < lns.length + 1) : upto (0 + lns.length) (upto 0 g0 (lanesF lns)) (fun i => ([laneD z] : List (List D)).getD i []) q = lanesF (lns ++ [z]) q := by
  unfold upto
  by_cases h : q < lns.length
  · rw [if_pos (by omega), if_neg (Nat.not_lt_zero _)]
    show laneD (lns.getD (q - 0) _) = laneD ((lns ++ [z]).getD q _)
    simp only [List.getD, Nat.sub_zero]
    rw [List.getElem?_append_left h]
  · rw [if_neg (by omega)]
    obtain rfl : q = lns.length := by omega
    rw [Nat.zero_add, Nat.sub_self]
    show laneD z = laneD ((lns ++ [z]).getD lns.length _)
    simp [List.getD]
theorem app_bell (l : List BellM) (z : BellM) (q : Nat) (hq : q < l.length + 1) : upto l.length (bellsF l) (fun i => ([bellD z] : List (List D)).getD i []) q = bellsF (l ++ [z]) q := by
  unfold upto
  by_cases h : q < l.length
  · rw [if_pos h]
    show bellD (l.getD q _) = bellD ((l ++ [z]).getD q _)
    simp only [List.getD]
    rw [List.getElem?_append_left h]
  · rw [if_neg h]
    obtain rfl : q = l.length := by omega
    rw [Nat.sub_self]
    show bellD z = bellD ((l ++ [z]).getD l.length _)
    simp [List.getD]
theorem app_slot (l : List SlotM) (z : SlotM) (q : Nat) (hq : q < l.length + 1) : upto l.length (slotsF l) (fun i => ([slotD z] : List (List D)).getD i []) q = slotsF (l ++ [z]) q := by
  unfold upto
  by_cases h : q < l.length
  · rw [if_pos h]
    show slotD (l.getD q _) = slotD ((l ++ [z]).getD q _)
    simp only [List.getD]
    rw [List.getElem?_append_left h]
  · rw [if_neg h]
    obtain rfl : q = l.length := by omega
    rw [Nat.sub_self]
    show slotD z = slotD ((l ++ [z]).getD l.length _)
    simp [List.getD]
set_option maxHeartbeats 3200000 in
theorem c_spec_l6Policy (c : List Int) (hc : okCode c) (p : Int) (hp : 0 ≤ p) (hp2 : p ≤ 1099511627) : MutS Try.prog 174 [.ptr 0 0] 1 [(0, srcBox c p)]
    (fun lv m' hp1 => ∃ (x : PolM) (q : Int), x.drawn ∧ p ≤ q ∧ q ≤ p + 60 ∧ lv = .agg (rows4 1 2 3 4) ∧ m' = 5 ∧ hp1 = [(0, srcBox c q), (1, nestE x.own), (2, rowLane x.lns), (3, rowBell x.bls), (4, rowSlot x.pln)]) := by
  have h4 := nx_in (c := c) hc (p := p) (n := 3) (by omega) (by omega)
  have h5 := pk_mem (c := c) hc (p := p + 1) (l := [2, 3, 3, 1]) (by omega) (by simp)
  have h5 : 1 ≤ pk c (p + 1) [2, 3, 3, 1] ∧ pk c (p + 1) [2, 3, 3, 1] ≤ 3 := by
    revert h5
    generalize pk c (p + 1) [2, 3, 3, 1] = v
    intro h5
    simp at h5
    omega
  refine mutS_fn_of lv174 Try.func174 rfl rfl (by kernel_rfl) rfl ?_
  repeat' (first | refine bsplit_true ?_ | refine bsplit_false ?_ | (refine .inr ⟨rfl, use_mut ⟨?_, ?_, ?_, ?_, ?_, ?_, ?_, ?_, ?_, ?_, ?_⟩⟩; rotate_left 6; exact rfl; exact rfl; (first | (refine c_spec_l1Next c hc _ _ ?_ ?_ <;> (first | omega | (dsimp only; omega))) | (refine pick3 c hc _ _ _ _ ?_ ?_ <;> (first | omega | (dsimp only; omega))) | (refine pick4 c hc _ _ _ _ _ ?_ ?_ <;> (first | omega | (dsimp only; omega))) | (refine pick2 c hc _ _ _ ?_ ?_ <;> (first | omega | (dsimp only; omega))) | (refine pick6 c hc _ _ _ _ _ _ _ ?_ ?_ <;> (first | omega | (dsimp only; omega))) | (refine pick7 c hc _ _ _ _ _ _ _ _ ?_ ?_ <;> (first | omega | (dsimp only; omega))) | (refine pick5 c hc _ _ _ _ _ _ ?_ ?_ <;> (first | omega | (dsimp only; omega)))); rfl))
  refine ⟨{ x : List (List Int) × Int × Int × Int // insOK x.1 ∧ 0 ≤ x.2.2.1 ∧ 1 ≤ (x.1.length : Int) + x.2.2.1 ∧ (x.1.length : Int) + x.2.2.1 ≤ 3 ∧ p ≤ x.2.2.2 ∧ x.2.2.2 ≤ p + 2 + x.1.length }, fun x => ⟨frL [(0, .ptr 0 0), (2, .ptr 10 0), (3, .ptr 11 0), (4, di x.1.2.1), (5, di x.1.2.2.1)], hpL [(0, srcBox c x.1.2.2.2), (10, .box 38 nil4), (11, .box 38 (rows4 12 13 14 15)), (12, nestE x.1.1), (13, rowLane []), (14, rowBell []), (15, rowSlot [])], 100, 1⟩, fun x => x.1.2.2.1.toNat,
    ⟨([], nx c p 3, pk c (p + 1) [2, 3, 3, 1], p + 1 + 1), fun i hi => absurd hi (Nat.not_lt_zero _), by show 0 ≤ pk c (p + 1) [2, 3, 3, 1]; omega, by show 1 ≤ ((0 : Nat) : Int) + pk c (p + 1) [2, 3, 3, 1]; omega, by show ((0 : Nat) : Int) + pk c (p + 1) [2, 3, 3, 1] ≤ 3; omega, by show p ≤ p + 1 + 1; omega, by show p + 1 + 1 ≤ p + 2 + ((0 : Nat) : Int); omega⟩,
    Le.trans (nilBox (k := 4129) (i := 0) (t := 38) (cs := nil4) rfl rfl (nestE []) rfl rfl) (Le.trans (nilBox (k := 4129) (i := 1) (t := 38) (cs := [.row 16385, .d (.v (.slice none 0 0)), .d (.v (.slice none 0 0)), .d (.v (.slice none 0 0))]) rfl rfl (rowLane []) rfl rfl) (Le.trans (nilBox (k := 4129) (i := 2) (t := 38) (cs := [.row 16385, .row 16386, .d (.v (.slice none 0 0)), .d (.v (.slice none 0 0))]) rfl rfl (rowBell []) rfl rfl) (Le.trans (nilBox (k := 4129) (i := 3) (t := 38) (cs := [.row 16385, .row 16386, .row 16387, .d (.v (.slice none 0 0))]) rfl rfl (rowSlot []) rfl rfl)
    (le_of [(10, 1), (11, 4129), (12, 16385), (13, 16386), (14, 16387), (15, 16388)] rfl rfl rfl rfl (tellHp_box rfl rfl ⟨DLe.refl _, rfl, trivial⟩ (tellHp_box rfl rfl ⟨rfl, rfl, rfl, rfl, trivial⟩ (tellHp_box rfl rfl ⟨rfl, rfl, rfl, rfl, trivial⟩ (tellHp_nest rfl rfl rfl (fun i hi => absurd hi (Nat.not_lt_zero _)) (tellHp_row rfl rfl rfl (fun j hj => rfl) (tellHp_row rfl rfl rfl (fun j hj => rfl) (tellHp_row rfl rfl rfl (fun j hj => rfl) tellHp_nil)))))))
      (tellFr_ptr rfl rfl (tellFr_ptr rfl rfl (tellFr_ptr rfl rfl (tellFr_v rfl rfl (tellFr_v rfl rfl trivial))))))))), ?_⟩
  rintro ⟨⟨l, pg, g, q⟩, hI, hg0, hg1, hg3, hq1, hq2⟩
  simp only at hI hg0 hg1 hg3 hq1 hq2
  by_cases hg : 0 < g
  · have hn := nx_in (c := c) hc (p := q) (n := 3) (by omega) (by omega)
    have hw : IntKind.i64.wrap (1 + nx c q 3) = 1 + nx c q 3 := wrap_i64 _ (by omega) (by omega)
    have hwg : IntKind.i64.wrap (g - 1) = g - 1 := wrap_i64 _ (by omega) (by omega)
    refine bsplit_of_true (decide_eq_true (show g > 0 by omega)) ?_
    repeat' (first | refine bsplit_true ?_ | refine bsplit_false ?_ | (refine .inr ⟨rfl, use_mut ⟨?_, ?_, ?_, ?_, ?_, ?_, ?_, ?_, ?_, ?_, ?_⟩⟩; rotate_left 6; exact rfl; exact rfl; (first | (refine c_spec_l1Next c hc _ _ ?_ ?_ <;> (first | omega | (dsimp only; omega))) | (refine pick3 c hc _ _ _ _ ?_ ?_ <;> (first | omega | (dsimp only; omega))) | (refine pick4 c hc _ _ _ _ _ ?_ ?_ <;> (first | omega | (dsimp only; omega))) | (refine pick2 c hc _ _ _ ?_ ?_ <;> (first | omega | (dsimp only; omega))) | (refine pick6 c hc _ _ _ _ _ _ _ ?_ ?_ <;> (first | omega | (dsimp only; omega))) | (refine pick7 c hc _ _ _ _ _ _ _ _ ?_ ?_ <;> (first | omega | (dsimp only; omega))) | (refine pick5 c hc _ _ _ _ _ _ ?_ ?_ <;> (first | omega | (dsimp only; omega)))); rfl))
    refine ⟨{ x : List Int × Int × Int // 0 ≤ x.2.2 ∧ 1 ≤ (x.1.length : Int) + x.2.2 ∧ (x.1.length : Int) + x.2.2 ≤ 3 }, fun x => ⟨frL [(0, .ptr 0 0), (2, .ptr 10 0), (3, .ptr 11 0), (4, di x.1.2.1), (5, di g), (6, .row 16), (7, di x.1.2.2)], hpL [(0, srcBox c (q + 1)), (10, .box 38 nil4), (11, .box 38 (rows4 12 13 14 15)), (12, nestE l), (13, rowLane []), (14, rowBell []), (15, rowSlot []), (16, rowE x.1.1)], 100, 1⟩, fun x => x.1.2.2.toNat,
      ⟨([], pg, 1 + nx c q 3), by show 0 ≤ 1 + nx c q 3; omega, by show 1 ≤ ((0 : Nat) : Int) + (1 + nx c q 3); omega, by show ((0 : Nat) : Int) + (1 + nx c q 3) ≤ 3; omega⟩,
      le_of [(10, 10), (11, 11), (12, 12), (13, 13), (14, 14), (15, 15), (16, 4196)] rfl rfl rfl rfl (tellHp_box rfl rfl ⟨DLe.refl _, rfl, trivial⟩ (tellHp_box rfl rfl ⟨rfl, rfl, rfl, rfl, trivial⟩ (tellHp_box rfl rfl ⟨rfl, rfl, rfl, rfl, trivial⟩ (tellHp_nest rfl rfl rfl (fun i hi => ⟨rfl, fun j hj => rfl⟩) (tellHp_row rfl rfl rfl (fun j hj => rfl) (tellHp_row rfl rfl rfl (fun j hj => rfl) (tellHp_row rfl rfl rfl (fun j hj => rfl) (tellHp_row rfl rfl rfl (fun j hj => absurd hj (Nat.not_lt_zero _)) tellHp_nil))))))))
        (tellFr_ptr rfl rfl (tellFr_ptr rfl rfl (tellFr_ptr rfl rfl (tellFr_v rfl rfl (tellFr_v rfl rfl (tellFr_row rfl rfl (tellFr_v rfl (congrArg (Value.int .i64) hw) trivial))))))), ?_⟩
    rintro ⟨⟨m, pg, k⟩, hk0, hk1, hk3⟩
    simp only at hk0 hk1 hk3
    by_cases hk : 0 < k
    · have hwk : IntKind.i64.wrap (k - 1) = k - 1 := wrap_i64 _ (by omega) (by omega)
      have hsl : (m ++ [pg]).length = m.length + 1 := by simp
      refine bsplit_of_true (decide_eq_true (show k > 0 by omega)) ?_
      refine ask_intro ⟨by show (m.length + 1) * 8 ≤ 140737488355328; omega, by show m.length + 1 ≤ 9223372036854775807; omega, fun q hq => ?_⟩ ?_
      · obtain rfl : q = 0 := by omega
        rfl
      exact ⟨⟨(m ++ [pg], IntKind.i64.wrap (pg + 1), k - 1), by show 0 ≤ k - 1; omega, by show 1 ≤ ((m ++ [pg]).length : Int) + (k - 1); omega, by show ((m ++ [pg]).length : Int) + (k - 1) ≤ 3; omega⟩,
        le_of [(10, 10), (11, 11), (12, 12), (13, 13), (14, 14), (15, 15), (16, 4292)] rfl rfl rfl rfl (tellHp_box rfl rfl ⟨DLe.refl _, rfl, trivial⟩ (tellHp_box rfl rfl ⟨rfl, rfl, rfl, rfl, trivial⟩ (tellHp_box rfl rfl ⟨rfl, rfl, rfl, rfl, trivial⟩ (tellHp_nest rfl rfl rfl (fun i hi => ⟨rfl, fun j hj => rfl⟩) (tellHp_row rfl rfl rfl (fun j hj => rfl) (tellHp_row rfl rfl rfl (fun j hj => rfl) (tellHp_row rfl rfl rfl (fun j hj => rfl) (tellHp_row rfl rfl hsl.symm (fun q hq => upto_snoc m _ _ rfl q hq) tellHp_nil))))))))
          (tellFr_ptr rfl rfl (tellFr_ptr rfl rfl (tellFr_ptr rfl rfl (tellFr_v rfl rfl (tellFr_v rfl rfl (tellFr_row rfl rfl (tellFr_v rfl (congrArg (Value.int .i64) hwk) trivial))))))), by show (k - 1).toNat < k.toNat; omega⟩
    · have hsl : (l ++ [m]).length = l.length + 1 := by simp
      have hm1 : 1 ≤ m.length := by omega
      have hm3 : m.length ≤ 3 := by omega
      have hl3 : l.length ≤ 3 := by omega
      refine bsplit_of_false (decide_eq_false (show ¬ k > 0 by omega)) ?_
      refine ask_intro trivial ?_
      refine ask_intro ⟨by show (l.length + 1) * 24 ≤ 140737488355328; omega, by show l.length + 1 ≤ 9223372036854775807; omega, trivial⟩ ?_
      refine ⟨⟨(l ++ [m], pg, g - 1, q + 1), insOK_snoc hI hm1 hm3, by show 0 ≤ g - 1; omega, by show 1 ≤ ((l ++ [m]).length : Int) + (g - 1); omega, by show ((l ++ [m]).length : Int) + (g - 1) ≤ 3; omega, by show p ≤ q + 1; omega, by show q + 1 ≤ p + 2 + ((l ++ [m]).length : Int); omega⟩,
        le_of [(10, 10), (11, 11), (12, 4324), (13, 13), (14, 14), (15, 15)] rfl rfl rfl rfl (tellHp_box rfl rfl ⟨DLe.refl _, rfl, trivial⟩ (tellHp_box rfl rfl ⟨rfl, rfl, rfl, rfl, trivial⟩ (tellHp_box rfl rfl ⟨rfl, rfl, rfl, rfl, trivial⟩ (tellHp_hole rfl rfl rfl rfl rfl hsl.symm ⟨?_, fun j hj => ?_⟩ (fun j hj hne => ⟨?_, fun u hu => ?_⟩) (tellHp_row rfl rfl rfl (fun j hj => rfl) (tellHp_row rfl rfl rfl (fun j hj => rfl) (tellHp_row rfl rfl rfl (fun j hj => rfl) tellHp_nil)))))))
          (tellFr_ptr rfl rfl (tellFr_ptr rfl rfl (tellFr_ptr rfl rfl (tellFr_v rfl rfl (tellFr_v rfl (congrArg (Value.int .i64) hwg) trivial))))), by show (g - 1).toNat < g.toNat; omega⟩
      · show m.length = ((l ++ [m]).getD l.length []).length
        rw [app_last]
      · show intsF m j = intsF ((l ++ [m]).getD l.length []) j
        rw [app_last]
      · have hj : j < l.length + 1 := hj
        have hne : j ≠ l.length := hne
        show (if j < l.length then lenF l j else 0) = _
        rw [if_pos (by omega)]
        exact (app_in l m j (by omega)).1
      · have hj : j < l.length + 1 := hj
        have hne : j ≠ l.length := hne
        show (if j < l.length then inF l j else fun _ => []) u = _
        rw [if_pos (by omega)]
        exact (app_in l m j (by omega)).2 u
  · have hl0 : 1 ≤ l.length := by omega
    have hl3 : l.length ≤ 3 := by omega
    refine bsplit_of_false (decide_eq_false (show ¬ g > 0 by omega)) ?_
    have hn4 := nx_in (c := c) hc (p := q) (n := 4) (by omega) (by omega)
    refine ask_intro trivial ?_
    repeat' (first | refine bsplit_true ?_ | refine bsplit_false ?_ | (refine .inr ⟨rfl, use_mut ⟨?_, ?_, ?_, ?_, ?_, ?_, ?_, ?_, ?_, ?_, ?_⟩⟩; rotate_left 6; exact rfl; exact rfl; (first | (refine c_spec_l1Next c hc _ _ ?_ ?_ <;> (first | omega | (dsimp only; omega))) | (refine pick3 c hc _ _ _ _ ?_ ?_ <;> (first | omega | (dsimp only; omega))) | (refine pick4 c hc _ _ _ _ _ ?_ ?_ <;> (first | omega | (dsimp only; omega))) | (refine pick2 c hc _ _ _ ?_ ?_ <;> (first | omega | (dsimp only; omega))) | (refine pick6 c hc _ _ _ _ _ _ _ ?_ ?_ <;> (first | omega | (dsimp only; omega))) | (refine pick7 c hc _ _ _ _ _ _ _ _ ?_ ?_ <;> (first | omega | (dsimp only; omega))) | (refine pick5 c hc _ _ _ _ _ _ ?_ ?_ <;> (first | omega | (dsimp only; omega)))); rfl))
    refine ⟨{ x : List LaneM × Int × Int × Int // 0 ≤ x.2.2.1 ∧ (x.1.length : Int) + x.2.2.1 ≤ 3 ∧ p ≤ x.2.2.2 ∧ x.2.2.2 + 4 * x.2.2.1 ≤ p + 18 }, fun x => ⟨frL [(0, .ptr 0 0), (2, .ptr 10 0), (3, .ptr 11 0), (4, di x.1.2.1), (8, di l.length), (9, di x.1.2.2.1)], hpL [(0, srcBox c x.1.2.2.2), (10, .box 38 nil4), (11, .box 38 (rows4 12 13 14 15)), (12, nestE l), (13, rowLane x.1.1), (14, rowBell []), (15, rowSlot [])], 100, 1⟩, fun x => x.1.2.2.1.toNat,
      ⟨([], pg, nx c q 4, q + 1), by show 0 ≤ nx c q 4; omega, by show ((0 : Nat) : Int) + nx c q 4 ≤ 3; omega, by show p ≤ q + 1; omega, by show q + 1 + 4 * nx c q 4 ≤ p + 18; omega⟩,
      le_of [(10, 10), (11, 11), (12, 12), (13, 13), (14, 14), (15, 15)] rfl rfl rfl rfl (tellHp_box rfl rfl ⟨DLe.refl _, rfl, trivial⟩ (tellHp_box rfl rfl ⟨rfl, rfl, rfl, rfl, trivial⟩ (tellHp_box rfl rfl ⟨rfl, rfl, rfl, rfl, trivial⟩ (tellHp_nest rfl rfl rfl (fun i hi => ⟨rfl, fun j hj => rfl⟩) (tellHp_row rfl rfl rfl (fun j hj => rfl) (tellHp_row rfl rfl rfl (fun j hj => rfl) (tellHp_row rfl rfl rfl (fun j hj => rfl) tellHp_nil)))))))
        (tellFr_ptr rfl rfl (tellFr_ptr rfl rfl (tellFr_ptr rfl rfl (tellFr_v rfl rfl (tellFr_v rfl rfl (tellFr_v rfl rfl trivial)))))), ?_⟩
    clear hn4
    rintro ⟨⟨lns, pg, k, q⟩, hk0, hk3, hq1, hq2⟩
    simp only at hk0 hk3 hq1 hq2
    by_cases hk : 0 < k
    · have hwk : IntKind.i64.wrap (k - 1) = k - 1 := wrap_i64 _ (by omega) (by omega)
      obtain ⟨z, hz⟩ : ∃ z : LaneM, z = ⟨nx c q l.length, nx c (q + 1) l.length, pg, IntKind.i64.wrap (5 + nx c (q + 1 + 1) 2), IntKind.i64.wrap (5 + nx c (q + 1 + 1 + 1) 2)⟩ := ⟨_, rfl⟩
      have hsl : (lns ++ [z]).length = lns.length + 1 := by simp
      have hx : PolM.small ⟨l, lns ++ [z], [], []⟩ := ⟨by show l.length * 24 ≤ 140737488355328; omega, fun i hi => by have := hI i hi; show (l.getD i []).length * 8 ≤ 140737488355328; omega, by show (lns ++ [z]).length * 40 ≤ 140737488355328; omega, by show (0 : Nat) * 16 ≤ 140737488355328; omega, by show (0 : Nat) * 16 ≤ 140737488355328; omega⟩
      have c1 := c_spec_l6Owns ⟨l, lns ++ [z], [], []⟩ hx
      have c2 := c_spec_l6Lanes ⟨l, lns ++ [z], [], []⟩ hx
      have hld := fun (g0 : Nat → List D) => app_lane lns z g0
      rw [hz] at hld
      have hle : ∀ g0, DLe (.l (0 + lns.length + 1) (upto (0 + lns.length) (upto 0 g0 (lanesF lns)) (fun i => ([laneD ⟨nx c q l.length, nx c (q + 1) l.length, pg, IntKind.i64.wrap (5 + nx c (q + 1 + 1) 2), IntKind.i64.wrap (5 + nx c (q + 1 + 1 + 1) 2)⟩] : List (List D)).getD i []))) (lanes (lns ++ [z])) := fun g0 => DLe.l (by rw [hsl]; omega) fun i hi => by rw [hz]; exact hld g0 i (by omega)
      have hld2 : ∀ (g0 : Nat → List D) (i : Nat), i < lns.length + 1 → upto (0 + lns.length) (upto 0 g0 (lanesF lns)) (fun i => ([laneD ⟨nx c q l.length, nx c (q + 1) l.length, pg, IntKind.i64.wrap (5 + nx c (q + 1 + 1) 2), IntKind.i64.wrap (5 + nx c (q + 1 + 1 + 1) 2)⟩] : List (List D)).getD i []) i = lanesF (lns ++ [z]) i := fun g0 i hi => by rw [hz]; exact hld g0 i hi
      obtain ⟨v1, hv1⟩ : ∃ v1, v1 = ownBad (PolM.own ⟨l, lns ++ [z], [], []⟩) := ⟨_, rfl⟩
      obtain ⟨v2, hv2⟩ : ∃ v2, v2 = lanesFault ⟨l, lns ++ [z], [], []⟩ := ⟨_, rfl⟩
      rw [← hv1] at c1
      rw [← hv2] at c2
      refine bsplit_of_true (decide_eq_true (show k > 0 by omega)) ?_
      refine ask_intro ⟨by show (0 + lns.length) * 40 ≤ 140737488355328; omega, by show 0 + lns.length ≤ 9223372036854775807; omega, fun i hi => rfl⟩ ?_
      repeat' (first | refine bsplit_true ?_ | refine bsplit_false ?_ | (refine .inr ⟨rfl, use_mut ⟨?_, ?_, ?_, ?_, ?_, ?_, ?_, ?_, ?_, ?_, ?_⟩⟩; rotate_left 6; exact rfl; exact rfl; (first | (refine c_spec_l1Next c hc _ _ ?_ ?_ <;> (first | omega | (dsimp only; omega))) | (refine pick3 c hc _ _ _ _ ?_ ?_ <;> (first | omega | (dsimp only; omega))) | (refine pick4 c hc _ _ _ _ _ ?_ ?_ <;> (first | omega | (dsimp only; omega))) | (refine pick2 c hc _ _ _ ?_ ?_ <;> (first | omega | (dsimp only; omega))) | (refine pick6 c hc _ _ _ _ _ _ _ ?_ ?_ <;> (first | omega | (dsimp only; omega))) | (refine pick7 c hc _ _ _ _ _ _ _ _ ?_ ?_ <;> (first | omega | (dsimp only; omega))) | (refine pick5 c hc _ _ _ _ _ _ ?_ ?_ <;> (first | omega | (dsimp only; omega)))); rfl))
      refine ask_intro ⟨by show (0 + lns.length + 1) * 40 ≤ 140737488355328; omega, by show 0 + lns.length + 1 ≤ 9223372036854775807; omega, fun i hi => ?_⟩ ?_
      · obtain rfl : i = 0 := by omega
        rfl
      refine .inl ⟨_, _, rfl, c1.weak ⟨LVLe.dptr4 (DLe.refl _) (hle _) (DLe.refl _) (DLe.refl _), trivial⟩, rfl, ?_⟩
      refine bsplit_intro (fun e1 => ?_) (fun e1 => ?_)
      · refine .inl ⟨_, _, rfl, c2.weak ⟨LVLe.dptr4 (DLe.refl _) (hle _) (DLe.refl _) (DLe.refl _), trivial⟩, rfl, ?_⟩
        repeat' (first | refine bsplit_true ?_ | refine bsplit_false ?_)
        refine bsplit_intro (fun e2 => ?_) (fun e2 => ?_)
        · exact ⟨⟨(lns ++ [z], IntKind.i64.wrap (pg + 1), k - 1, q + 1 + 1 + 1 + 1), by show 0 ≤ k - 1; omega, by show ((lns ++ [z]).length : Int) + (k - 1) ≤ 3; omega, by show p ≤ q + 1 + 1 + 1 + 1; omega, by show q + 1 + 1 + 1 + 1 + 4 * (k - 1) ≤ p + 18; omega⟩,
            le_of [(10, 10), (11, 11), (12, 12), (13, 8900), (14, 14), (15, 15)] rfl rfl rfl rfl (tellHp_box rfl rfl ⟨DLe.refl _, rfl, trivial⟩ (tellHp_box rfl rfl ⟨rfl, rfl, rfl, rfl, trivial⟩ (tellHp_box rfl rfl ⟨rfl, rfl, rfl, rfl, trivial⟩ (tellHp_nest rfl rfl rfl (fun i hi => ⟨rfl, fun j hj => rfl⟩) (tellHp_row rfl rfl (show 0 + lns.length + 1 = (lns ++ [z]).length by rw [hsl]; omega) (fun i hi => hld2 _ i (by have hi : i < 0 + lns.length + 1 := hi; omega)) (tellHp_row rfl rfl rfl (fun j hj => rfl) (tellHp_row rfl rfl rfl (fun j hj => rfl) tellHp_nil)))))))
              (tellFr_ptr rfl rfl (tellFr_ptr rfl rfl (tellFr_ptr rfl rfl (tellFr_v rfl rfl (tellFr_v rfl rfl (tellFr_v rfl (congrArg (Value.int .i64) hwk) trivial)))))), by show (k - 1).toNat < k.toNat; omega⟩
        · exact ⟨⟨(lns, pg, k - 1, q + 1 + 1 + 1 + 1), by show 0 ≤ k - 1; omega, by show (lns.length : Int) + (k - 1) ≤ 3; omega, by show p ≤ q + 1 + 1 + 1 + 1; omega, by show q + 1 + 1 + 1 + 1 + 4 * (k - 1) ≤ p + 18; omega⟩,
          le_of [(10, 10), (11, 11), (12, 12), (13, 13), (14, 14), (15, 15)] rfl rfl rfl rfl (tellHp_box rfl rfl ⟨DLe.refl _, rfl, trivial⟩ (tellHp_box rfl rfl ⟨rfl, rfl, rfl, rfl, trivial⟩ (tellHp_box rfl rfl ⟨rfl, rfl, rfl, rfl, trivial⟩ (tellHp_nest rfl rfl rfl (fun i hi => ⟨rfl, fun j hj => rfl⟩) (tellHp_row rfl rfl rfl (fun j hj => rfl) (tellHp_row rfl rfl rfl (fun j hj => rfl) (tellHp_row rfl rfl rfl (fun j hj => rfl) tellHp_nil)))))))
            (tellFr_ptr rfl rfl (tellFr_ptr rfl rfl (tellFr_ptr rfl rfl (tellFr_v rfl rfl (tellFr_v rfl rfl (tellFr_v rfl (congrArg (Value.int .i64) hwk) trivial)))))), by show (k - 1).toNat < k.toNat; omega⟩
      · repeat' (first | refine bsplit_true ?_ | refine bsplit_false ?_)
        exact ⟨⟨(lns, pg, k - 1, q + 1 + 1 + 1 + 1), by show 0 ≤ k - 1; omega, by show (lns.length : Int) + (k - 1) ≤ 3; omega, by show p ≤ q + 1 + 1 + 1 + 1; omega, by show q + 1 + 1 + 1 + 1 + 4 * (k - 1) ≤ p + 18; omega⟩,
          le_of [(10, 10), (11, 11), (12, 12), (13, 13), (14, 14), (15, 15)] rfl rfl rfl rfl (tellHp_box rfl rfl ⟨DLe.refl _, rfl, trivial⟩ (tellHp_box rfl rfl ⟨rfl, rfl, rfl, rfl, trivial⟩ (tellHp_box rfl rfl ⟨rfl, rfl, rfl, rfl, trivial⟩ (tellHp_nest rfl rfl rfl (fun i hi => ⟨rfl, fun j hj => rfl⟩) (tellHp_row rfl rfl rfl (fun j hj => rfl) (tellHp_row rfl rfl rfl (fun j hj => rfl) (tellHp_row rfl rfl rfl (fun j hj => rfl) tellHp_nil)))))))
            (tellFr_ptr rfl rfl (tellFr_ptr rfl rfl (tellFr_ptr rfl rfl (tellFr_v rfl rfl (tellFr_v rfl rfl (tellFr_v rfl (congrArg (Value.int .i64) hwk) trivial)))))), by show (k - 1).toNat < k.toNat; omega⟩
    · refine bsplit_of_false (decide_eq_false (show ¬ k > 0 by omega)) ?_
      have hn3 := nx_in (c := c) hc (p := q) (n := 3) (by omega) (by omega)
      have hL3 : lns.length ≤ 3 := by omega
      repeat' (first | refine bsplit_true ?_ | refine bsplit_false ?_ | (refine .inr ⟨rfl, use_mut ⟨?_, ?_, ?_, ?_, ?_, ?_, ?_, ?_, ?_, ?_, ?_⟩⟩; rotate_left 6; exact rfl; exact rfl; (first | (refine c_spec_l1Next c hc _ _ ?_ ?_ <;> (first | omega | (dsimp only; omega))) | (refine pick3 c hc _ _ _ _ ?_ ?_ <;> (first | omega | (dsimp only; omega))) | (refine pick4 c hc _ _ _ _ _ ?_ ?_ <;> (first | omega | (dsimp only; omega))) | (refine pick2 c hc _ _ _ ?_ ?_ <;> (first | omega | (dsimp only; omega))) | (refine pick6 c hc _ _ _ _ _ _ _ ?_ ?_ <;> (first | omega | (dsimp only; omega))) | (refine pick7 c hc _ _ _ _ _ _ _ _ ?_ ?_ <;> (first | omega | (dsimp only; omega))) | (refine pick5 c hc _ _ _ _ _ _ ?_ ?_ <;> (first | omega | (dsimp only; omega)))); rfl))
      refine ⟨{ x : List BellM × Int × Int // 0 ≤ x.2.1 ∧ (x.1.length : Int) + x.2.1 ≤ 2 ∧ p ≤ x.2.2 ∧ x.2.2 + 2 * x.2.1 ≤ p + 23 }, fun x => ⟨frL [(0, .ptr 0 0), (2, .ptr 10 0), (3, .ptr 11 0), (8, di l.length), (11, di x.1.2.1)], hpL [(0, srcBox c x.1.2.2), (10, .box 38 nil4), (11, .box 38 (rows4 12 13 14 15)), (12, nestE l), (13, rowLane lns), (14, rowBell x.1.1), (15, rowSlot [])], 100, 1⟩, fun x => x.1.2.1.toNat,
        ⟨([], nx c q 3, q + 1), by show 0 ≤ nx c q 3; omega, by show ((0 : Nat) : Int) + nx c q 3 ≤ 2; omega, by show p ≤ q + 1; omega, by show q + 1 + 2 * nx c q 3 ≤ p + 23; omega⟩,
        le_of [(10, 10), (11, 11), (12, 12), (13, 13), (14, 14), (15, 15)] rfl rfl rfl rfl (tellHp_box rfl rfl ⟨DLe.refl _, rfl, trivial⟩ (tellHp_box rfl rfl ⟨rfl, rfl, rfl, rfl, trivial⟩ (tellHp_box rfl rfl ⟨rfl, rfl, rfl, rfl, trivial⟩ (tellHp_nest rfl rfl rfl (fun i hi => ⟨rfl, fun j hj => rfl⟩) (tellHp_row rfl rfl rfl (fun j hj => rfl) (tellHp_row rfl rfl rfl (fun j hj => rfl) (tellHp_row rfl rfl rfl (fun j hj => rfl) tellHp_nil)))))))
          (tellFr_ptr rfl rfl (tellFr_ptr rfl rfl (tellFr_ptr rfl rfl (tellFr_v rfl rfl (tellFr_v rfl rfl trivial))))), ?_⟩
      clear hn3
      rintro ⟨⟨bls, k, q⟩, hk0, hk3, hq1, hq2⟩
      simp only at hk0 hk3 hq1 hq2
      by_cases hk : 0 < k
      · have hwk : IntKind.i64.wrap (k - 1) = k - 1 := wrap_i64 _ (by omega) (by omega)
        have hz := app_bell bls ⟨nx c q l.length, nx c (q + 1) l.length⟩
        have hsl : (bls ++ [(⟨nx c q l.length, nx c (q + 1) l.length⟩ : BellM)]).length = bls.length + 1 := by simp
        refine bsplit_of_true (decide_eq_true (show k > 0 by omega)) ?_
        repeat' (first | refine bsplit_true ?_ | refine bsplit_false ?_ | (refine .inr ⟨rfl, use_mut ⟨?_, ?_, ?_, ?_, ?_, ?_, ?_, ?_, ?_, ?_, ?_⟩⟩; rotate_left 6; exact rfl; exact rfl; (first | (refine c_spec_l1Next c hc _ _ ?_ ?_ <;> (first | omega | (dsimp only; omega))) | (refine pick3 c hc _ _ _ _ ?_ ?_ <;> (first | omega | (dsimp only; omega))) | (refine pick4 c hc _ _ _ _ _ ?_ ?_ <;> (first | omega | (dsimp only; omega))) | (refine pick2 c hc _ _ _ ?_ ?_ <;> (first | omega | (dsimp only; omega))) | (refine pick6 c hc _ _ _ _ _ _ _ ?_ ?_ <;> (first | omega | (dsimp only; omega))) | (refine pick7 c hc _ _ _ _ _ _ _ _ ?_ ?_ <;> (first | omega | (dsimp only; omega))) | (refine pick5 c hc _ _ _ _ _ _ ?_ ?_ <;> (first | omega | (dsimp only; omega)))); rfl))
        refine bsplit_intro (fun e1 => ?_) (fun e1 => ?_)
        · repeat' (first | refine bsplit_true ?_ | refine bsplit_false ?_)
          refine bsplit_intro (fun e2 => ?_) (fun e2 => ?_)
          · refine ask_intro ⟨by show (bls.length + 1) * 16 ≤ 140737488355328; omega, by show bls.length + 1 ≤ 9223372036854775807; omega, fun i hi => ?_⟩ ?_
            · obtain rfl : i = 0 := by omega
              rfl
            exact ⟨⟨(bls ++ [(⟨nx c q l.length, nx c (q + 1) l.length⟩ : BellM)], k - 1, q + 1 + 1), by show 0 ≤ k - 1; omega, by show ((bls ++ [(⟨nx c q l.length, nx c (q + 1) l.length⟩ : BellM)]).length : Int) + (k - 1) ≤ 2; omega, by show p ≤ q + 1 + 1; omega, by show q + 1 + 1 + 2 * (k - 1) ≤ p + 23; omega⟩,
              le_of [(10, 10), (11, 11), (12, 12), (13, 13), (14, 12516), (15, 15)] rfl rfl rfl rfl (tellHp_box rfl rfl ⟨DLe.refl _, rfl, trivial⟩ (tellHp_box rfl rfl ⟨rfl, rfl, rfl, rfl, trivial⟩ (tellHp_box rfl rfl ⟨rfl, rfl, rfl, rfl, trivial⟩ (tellHp_nest rfl rfl rfl (fun i hi => ⟨rfl, fun j hj => rfl⟩) (tellHp_row rfl rfl rfl (fun j hj => rfl) (tellHp_row rfl rfl hsl.symm (fun i hi => hz i hi) (tellHp_row rfl rfl rfl (fun j hj => rfl) tellHp_nil)))))))
                (tellFr_ptr rfl rfl (tellFr_ptr rfl rfl (tellFr_ptr rfl rfl (tellFr_v rfl rfl (tellFr_v rfl (congrArg (Value.int .i64) hwk) trivial))))), by show (k - 1).toNat < k.toNat; omega⟩
          · exact ⟨⟨(bls, k - 1, q + 1 + 1), by show 0 ≤ k - 1; omega, by show (bls.length : Int) + (k - 1) ≤ 2; omega, by show p ≤ q + 1 + 1; omega, by show q + 1 + 1 + 2 * (k - 1) ≤ p + 23; omega⟩,
            le_of [(10, 10), (11, 11), (12, 12), (13, 13), (14, 14), (15, 15)] rfl rfl rfl rfl (tellHp_box rfl rfl ⟨DLe.refl _, rfl, trivial⟩ (tellHp_box rfl rfl ⟨rfl, rfl, rfl, rfl, trivial⟩ (tellHp_box rfl rfl ⟨rfl, rfl, rfl, rfl, trivial⟩ (tellHp_nest rfl rfl rfl (fun i hi => ⟨rfl, fun j hj => rfl⟩) (tellHp_row rfl rfl rfl (fun j hj => rfl) (tellHp_row rfl rfl rfl (fun j hj => rfl) (tellHp_row rfl rfl rfl (fun j hj => rfl) tellHp_nil)))))))
              (tellFr_ptr rfl rfl (tellFr_ptr rfl rfl (tellFr_ptr rfl rfl (tellFr_v rfl rfl (tellFr_v rfl (congrArg (Value.int .i64) hwk) trivial))))), by show (k - 1).toNat < k.toNat; omega⟩
        · repeat' (first | refine bsplit_true ?_ | refine bsplit_false ?_)
          exact ⟨⟨(bls, k - 1, q + 1 + 1), by show 0 ≤ k - 1; omega, by show (bls.length : Int) + (k - 1) ≤ 2; omega, by show p ≤ q + 1 + 1; omega, by show q + 1 + 1 + 2 * (k - 1) ≤ p + 23; omega⟩,
            le_of [(10, 10), (11, 11), (12, 12), (13, 13), (14, 14), (15, 15)] rfl rfl rfl rfl (tellHp_box rfl rfl ⟨DLe.refl _, rfl, trivial⟩ (tellHp_box rfl rfl ⟨rfl, rfl, rfl, rfl, trivial⟩ (tellHp_box rfl rfl ⟨rfl, rfl, rfl, rfl, trivial⟩ (tellHp_nest rfl rfl rfl (fun i hi => ⟨rfl, fun j hj => rfl⟩) (tellHp_row rfl rfl rfl (fun j hj => rfl) (tellHp_row rfl rfl rfl (fun j hj => rfl) (tellHp_row rfl rfl rfl (fun j hj => rfl) tellHp_nil)))))))
              (tellFr_ptr rfl rfl (tellFr_ptr rfl rfl (tellFr_ptr rfl rfl (tellFr_v rfl rfl (tellFr_v rfl (congrArg (Value.int .i64) hwk) trivial))))), by show (k - 1).toNat < k.toNat; omega⟩
      · refine bsplit_of_false (decide_eq_false (show ¬ k > 0 by omega)) ?_
        have hn4 := nx_in (c := c) hc (p := q) (n := 4) (by omega) (by omega)
        have hB2 : bls.length ≤ 2 := by omega
        have hw : IntKind.i64.wrap (1 + nx c q 4) = 1 + nx c q 4 := wrap_i64 _ (by omega) (by omega)
        repeat' (first | refine bsplit_true ?_ | refine bsplit_false ?_ | (refine .inr ⟨rfl, use_mut ⟨?_, ?_, ?_, ?_, ?_, ?_, ?_, ?_, ?_, ?_, ?_⟩⟩; rotate_left 6; exact rfl; exact rfl; (first | (refine c_spec_l1Next c hc _ _ ?_ ?_ <;> (first | omega | (dsimp only; omega))) | (refine pick3 c hc _ _ _ _ ?_ ?_ <;> (first | omega | (dsimp only; omega))) | (refine pick4 c hc _ _ _ _ _ ?_ ?_ <;> (first | omega | (dsimp only; omega))) | (refine pick2 c hc _ _ _ ?_ ?_ <;> (first | omega | (dsimp only; omega))) | (refine pick6 c hc _ _ _ _ _ _ _ ?_ ?_ <;> (first | omega | (dsimp only; omega))) | (refine pick7 c hc _ _ _ _ _ _ _ _ ?_ ?_ <;> (first | omega | (dsimp only; omega))) | (refine pick5 c hc _ _ _ _ _ _ ?_ ?_ <;> (first | omega | (dsimp only; omega)))); rfl))
        refine ⟨{ x : List SlotM × Int × Int // 0 ≤ x.2.1 ∧ 1 ≤ (x.1.length : Int) + x.2.1 ∧ (x.1.length : Int) + x.2.1 ≤ 4 ∧ p ≤ x.2.2 ∧ x.2.2 + 2 * x.2.1 ≤ p + 32 }, fun x => ⟨frL [(0, .ptr 0 0), (2, .ptr 10 0), (3, .ptr 11 0), (8, di l.length), (13, di x.1.2.1)], hpL [(0, srcBox c x.1.2.2), (10, .box 38 nil4), (11, .box 38 (rows4 12 13 14 15)), (12, nestE l), (13, rowLane lns), (14, rowBell bls), (15, rowSlot x.1.1)], 100, 1⟩, fun x => x.1.2.1.toNat,
          ⟨([], 1 + nx c q 4, q + 1), by show 0 ≤ 1 + nx c q 4; omega, by show 1 ≤ ((0 : Nat) : Int) + (1 + nx c q 4); omega, by show ((0 : Nat) : Int) + (1 + nx c q 4) ≤ 4; omega, by show p ≤ q + 1; omega, by show q + 1 + 2 * (1 + nx c q 4) ≤ p + 32; omega⟩,
          le_of [(10, 10), (11, 11), (12, 12), (13, 13), (14, 14), (15, 15)] rfl rfl rfl rfl (tellHp_box rfl rfl ⟨DLe.refl _, rfl, trivial⟩ (tellHp_box rfl rfl ⟨rfl, rfl, rfl, rfl, trivial⟩ (tellHp_box rfl rfl ⟨rfl, rfl, rfl, rfl, trivial⟩ (tellHp_nest rfl rfl rfl (fun i hi => ⟨rfl, fun j hj => rfl⟩) (tellHp_row rfl rfl rfl (fun j hj => rfl) (tellHp_row rfl rfl rfl (fun j hj => rfl) (tellHp_row rfl rfl rfl (fun j hj => rfl) tellHp_nil)))))))
            (tellFr_ptr rfl rfl (tellFr_ptr rfl rfl (tellFr_ptr rfl rfl (tellFr_v rfl rfl (tellFr_v rfl (congrArg (Value.int .i64) hw) trivial))))), ?_⟩
        clear hn4 hw
        rintro ⟨⟨pln, k, q⟩, hk0, hk1, hk3, hq1, hq2⟩
        simp only at hk0 hk1 hk3 hq1 hq2
        by_cases hk : 0 < k
        · have hwk : IntKind.i64.wrap (k - 1) = k - 1 := wrap_i64 _ (by omega) (by omega)
          have hz := app_slot pln ⟨nx c q l.length, IntKind.i64.wrap (1 + nx c (q + 1) 9)⟩
          have hsl : (pln ++ [(⟨nx c q l.length, IntKind.i64.wrap (1 + nx c (q + 1) 9)⟩ : SlotM)]).length = pln.length + 1 := by simp
          refine bsplit_of_true (decide_eq_true (show k > 0 by omega)) ?_
          refine .inr ⟨_, _, use_mut ⟨_, _, _, _, _, _, rfl, rfl, c_spec_l1Next c hc q l.length (by omega) (by omega), rfl, ⟨rfl, rfl⟩⟩, ?_⟩
          refine .inr ⟨_, _, use_mut ⟨_, _, _, _, _, _, rfl, rfl, c_spec_l1Next c hc (q + 1) 9 (by omega) (by omega), rfl, ⟨rfl, rfl⟩⟩, ?_⟩
          refine ask_intro ⟨by show (pln.length + 1) * 16 ≤ 140737488355328; omega, by show pln.length + 1 ≤ 9223372036854775807; omega, fun i hi => ?_⟩ ?_
          · obtain rfl : i = 0 := by omega
            rfl
          refine chk_intro (by kernel_rfl) ?_
          exact ⟨⟨(pln ++ [(⟨nx c q l.length, IntKind.i64.wrap (1 + nx c (q + 1) 9)⟩ : SlotM)], k - 1, q + 1 + 1), by show 0 ≤ k - 1; omega, by show 1 ≤ ((pln ++ [(⟨nx c q l.length, IntKind.i64.wrap (1 + nx c (q + 1) 9)⟩ : SlotM)]).length : Int) + (k - 1); omega, by show ((pln ++ [(⟨nx c q l.length, IntKind.i64.wrap (1 + nx c (q + 1) 9)⟩ : SlotM)]).length : Int) + (k - 1) ≤ 4; omega, by show p ≤ q + 1 + 1; omega, by show q + 1 + 1 + 2 * (k - 1) ≤ p + 32; omega⟩,
            le_of [(10, 10), (11, 11), (12, 12), (13, 13), (14, 14), (15, 4516)] rfl rfl rfl rfl (tellHp_box rfl rfl ⟨DLe.refl _, rfl, trivial⟩ (tellHp_box rfl rfl ⟨rfl, rfl, rfl, rfl, trivial⟩ (tellHp_box rfl rfl ⟨rfl, rfl, rfl, rfl, trivial⟩ (tellHp_nest rfl rfl rfl (fun i hi => ⟨rfl, fun j hj => rfl⟩) (tellHp_row rfl rfl rfl (fun j hj => rfl) (tellHp_row rfl rfl rfl (fun j hj => rfl) (tellHp_row rfl rfl hsl.symm (fun i hi => hz i hi) tellHp_nil)))))))
              (tellFr_ptr rfl rfl (tellFr_ptr rfl rfl (tellFr_ptr rfl rfl (tellFr_v rfl rfl (tellFr_v rfl (congrArg (Value.int .i64) hwk) trivial))))), by show (k - 1).toNat < k.toNat; omega⟩
        · refine bsplit_of_false (decide_eq_false (show ¬ k > 0 by omega)) ?_
          exact ⟨_, _, _, [(1, 12), (2, 13), (3, 14), (4, 15)], ⟨⟨l, lns, bls, pln⟩, q, ⟨hl0, hl3, hI, hL3, hB2, by show 1 ≤ pln.length; omega, by show pln.length ≤ 4; omega⟩, by omega, by omega, rfl, rfl, rfl⟩,
            chk_intro (by kernel_rfl) ⟨⟨rfl, rfl, rfl, rfl, trivial⟩, tellHp_box rfl rfl ⟨DLe.refl _, rfl, trivial⟩ (tellHp_nest rfl rfl rfl (fun i hi => ⟨rfl, fun j hj => rfl⟩) (tellHp_row rfl rfl rfl (fun j hj => rfl) (tellHp_row rfl rfl rfl (fun j hj => rfl) (tellHp_row rfl rfl rfl (fun j hj => rfl) tellHp_nil))))⟩⟩
end Go.Proofs.Ytojaakpnpdnbhaa.L

/- Policies that are drawn and bent: contracts. -/
set_option linter.unusedVariables false
set_option linter.unusedSimpArgs false
set_option maxRecDepth 100000
namespace Go.Proofs.Ytojaakpnpdnbhaa.L
open Go.RowKit
theorem DLe.l2 {n m : Nat} {f g : Nat → List D} (hn : n = m) (h : ∀ i, i < n → (f i).length = (g i).length ∧ ∀ j, j < (f i).length → DLe ((f i).getD j (.v undef)) ((g i).getD j (.v undef))) : DLe (.l n f) (.l m g) := by
  subst hn
  intro w I v hr
  cases hr with
  | nil f A c => exact .nil _ _ _
  | l n f a c sz vs h0 hc hI hs hz hl hv h1 hr =>
    exact .l n g a c sz vs h0 hc hI hs hz (fun i hi => by rw [← (h i hi).1]; exact hl i hi) hv h1 (fun i j hi hj => (h i hi).2 j (by rw [hl i hi]; exact hj) _ _ _ (hr i j hi hj))
theorem DLe.of_eq {x y : D} (h : x = y) : DLe x y := h ▸ DLe.refl _
structure PolM.few (x : PolM) : Prop where
  own : x.own.length ≤ 4
  ins : ∀ i, i < x.own.length → (x.own.getD i []).length ≤ 3
  lns : x.lns.length ≤ 5
  bls : x.bls.length ≤ 4
  pln : x.pln.length ≤ 9
theorem PolM.few.small {x : PolM} (h : x.few) : x.small := by
  obtain ⟨h1, h2, h3, h4, h5⟩ := h
  exact ⟨by omega, fun i hi => by have := h2 i hi; omega, by omega, by omega, by omega⟩
theorem PolM.drawn.few {x : PolM} (h : x.drawn) : x.few := by
  obtain ⟨h1, h2, h3, h4, h5, h6, h7⟩ := h
  exact ⟨by omega, fun i hi => (h3 i hi).2, by omega, by omega, by omega⟩
theorem nestEl_h1 {s : LS} {L : Nat → Nat} {f : Nat → Nat → List D} {k m : Nat} {e : TypeId} {sz : Nat} {h : Nat → List D} (hk : s.hp k = some (.row e sz m h)) (i : Nat) : nestEl s L f [(0, .hole k)] i = if i = 0 then [.l m h] else [.l (L i) (f i)] := by
  unfold nestEl nOf
  cases i with
  | zero =>
    show (match s.hp k with | some (.row _ _ m h) => [D.l m h] | _ => []) = _
    rw [hk]; rfl
  | succ i => rfl
theorem nestEl_h2 {s : LS} {L : Nat → Nat} {f : Nat → Nat → List D} {k m n1 : Nat} {e : TypeId} {sz : Nat} {h : Nat → List D} (hk : s.hp k = some (.row e sz m h)) (i : Nat) : nestEl s L f [(n1, .hole k), (0, .hole k)] i = if i = n1 ∨ i = 0 then [.l m h] else [.l (L i) (f i)] := by
  unfold nestEl nOf
  simp only [lookN]
  by_cases h1 : i = n1
  · subst h1
    rw [Nat.beq_refl, cond_true, if_pos (.inl rfl)]
    show (match s.hp k with | some (.row _ _ m h) => [D.l m h] | _ => []) = _
    rw [hk]
  · have e1 : Nat.beq i n1 = false := by rw [← Bool.not_eq_true, Nat.beq_eq]; exact h1
    rw [e1, cond_false]
    by_cases h2 : i = 0
    · subst h2
      rw [if_pos (.inr rfl)]
      show (match s.hp k with | some (.row _ _ m h) => [D.l m h] | _ => []) = _
      rw [hk]
    · have e2 : Nat.beq i 0 = false := by rw [← Bool.not_eq_true, Nat.beq_eq]; exact h2
      rw [e2, cond_false, if_neg (by omega)]
theorem nestEl_d1 {s : LS} {L : Nat → Nat} {f : Nat → Nat → List D} {x : D} (i : Nat) : nestEl s L f [(0, .dat x)] i = if i = 0 then [x] else [.l (L i) (f i)] := by
  unfold nestEl nOf
  cases i with
  | zero => rfl
  | succ i => rfl
theorem app_lane1 (l : List LaneM) (z : LaneM) (q : Nat) (hq : q < l.length + 1) : upto l.length (lanesF l) (fun i => ([laneD z] : List (List D)).getD i []) q = lanesF (l ++ [z]) q := by
  unfold upto
  by_cases h : q < l.length
  · rw [if_pos h]
    show laneD (l.getD q _) = laneD ((l ++ [z]).getD q _)
    simp only [List.getD]
    rw [List.getElem?_append_left h]
  · rw [if_neg h]
    obtain rfl : q = l.length := by omega
    rw [Nat.sub_self]
    show laneD z = laneD ((l ++ [z]).getD l.length _)
    simp [List.getD]
theorem app_bell2 (l : List BellM) (y z : BellM) (q : Nat) (hq : q < l.length + 2) : upto l.length (bellsF l) (fun i => ([bellD y, bellD z] : List (List D)).getD i []) q = bellsF (l ++ [y, z]) q := by
  unfold upto
  by_cases h : q < l.length
  · rw [if_pos h]
    show bellD (l.getD q _) = bellD ((l ++ [y, z]).getD q _)
    simp only [List.getD]
    rw [List.getElem?_append_left h]
  · rw [if_neg h]
    show _ = bellD ((l ++ [y, z]).getD q _)
    simp only [List.getD]
    rw [List.getElem?_append_right (by omega)]
    obtain e | e : q - l.length = 0 ∨ q - l.length = 1 := by omega
    · rw [e]; rfl
    · rw [e]; rfl
theorem set_slot {l : List SlotM} {z : SlotM} (hl : 0 < l.length) (j : Nat) : (if j = 0 then splice (slotsF l j) 0 (slotD z) else slotsF l j) = slotsF (l.set 0 z) j := by
  show _ = slotD ((l.set 0 z).getD j ⟨0, 0⟩)
  by_cases e : j = 0
  · subst e
    rw [if_pos rfl]
    simp [List.getD, splice]
    rw [List.getElem?_eq_getElem (by simpa using hl)]
    simp
  · rw [if_neg e]
    show slotD (l.getD j ⟨0, 0⟩) = _
    simp [List.getD, List.getElem?_set_ne (Ne.symm e)]
theorem rep_slot (j : Nat) (hj : j < 9) : [D.v (.int .i64 0), D.v (.int .i64 0)] = slotsF (List.replicate 9 ⟨0, 0⟩) j := by
  show _ = slotD (((List.replicate 9 (⟨0, 0⟩ : SlotM))[j]?).getD ⟨0, 0⟩)
  rw [List.getElem?_replicate, if_pos hj]
  rfl
theorem rep_lane (j : Nat) (hj : j < 5) : [D.v (.int .i64 0), D.v (.int .i64 0), D.v (.int .i64 0), D.v (.int .i64 0), D.v (.int .i64 0)] = lanesF (List.replicate 5 ⟨0, 0, 0, 0, 0⟩) j := by
  show _ = laneD (((List.replicate 5 (⟨0, 0, 0, 0, 0⟩ : LaneM))[j]?).getD ⟨0, 0, 0, 0, 0⟩)
  rw [List.getElem?_replicate, if_pos hj]
  rfl
theorem set_head (l : List (List Int)) (m : List Int) (i : Nat) (hl : 0 < l.length) : (l.set 0 m).getD i [] = if i = 0 then m else l.getD i [] := by
  by_cases e : i = 0
  · subst e; simp [List.getD, List.getElem?_set_self hl]
  · rw [if_neg e]; simp [List.getD, List.getElem?_set_ne (Ne.symm e)]
theorem own_c0 (ow : List (List Int)) (h0 : 1 ≤ ow.length) (h1 : 1 ≤ (ow.getD 0 []).length) (v : Int) (i : Nat) : (if i = 0 then [D.l (lenF ow 0) (fun j => if j = 0 then splice (inF ow 0 j) 0 [D.v (.int .i64 v)] else inF ow 0 j)] else [D.l (lenF ow i) (inF ow i)]) = ownsF (ow.set 0 ((ow.getD 0 []).set 0 v)) i := by
  show _ = [ints ((ow.set 0 ((ow.getD 0 []).set 0 v)).getD i [])]
  rw [set_head ow _ i (by omega)]
  by_cases e : i = 0
  · rw [if_pos e, if_pos e]
    have e1 : (fun j => if j = 0 then splice (inF ow 0 j) 0 [D.v (.int .i64 v)] else inF ow 0 j) = intsF ((ow.getD 0 []).set 0 v) := by
      funext j
      by_cases ej : j = 0
      · subst ej
        rw [if_pos rfl]
        show [D.v (.int .i64 v)] = [D.v (.int .i64 (((ow.getD 0 []).set 0 v).getD 0 0))]
        simp only [List.getD]
        rw [List.getElem?_set_self (by show 0 < (ow.getD 0 []).length; omega)]
        rfl
      · rw [if_neg ej]
        show [D.v (.int .i64 ((ow.getD 0 []).getD j 0))] = [D.v (.int .i64 (((ow.getD 0 []).set 0 v).getD j 0))]
        simp only [List.getD]
        rw [List.getElem?_set_ne (Ne.symm ej)]
    rw [e1]
    show [D.l (ow.getD 0 []).length _] = [D.l ((ow.getD 0 []).set 0 v).length _]
    rw [List.length_set]
  · rw [if_neg e, if_neg e]
theorem own_c1 (ow : List (List Int)) (h0 : 1 ≤ ow.length) (i : Nat) (hi : i < ow.length + 1) : (if i = ow.length ∨ i = 0 then [D.l (lenF ow 0) (inF ow 0)] else [D.l (uptoN ow.length (lenF ow) (fun _ => 0) i) (uptoN ow.length (inF ow) (fun _ _ => []) i)]) = ownsF (ow ++ [ow.getD 0 []]) i := by
  show _ = [ints ((ow ++ [ow.getD 0 []]).getD i [])]
  by_cases e : i = ow.length
  · rw [if_pos (.inl e), e, app_last]
  · have hl : (ow ++ [ow.getD 0 []]).getD i [] = ow.getD i [] := by simp only [List.getD]; rw [List.getElem?_append_left (by omega)]
    rw [hl]
    by_cases e2 : i = 0
    · rw [if_pos (.inr e2), e2]
    · rw [if_neg (by omega)]
      unfold uptoN
      rw [if_pos (by omega), if_pos (by omega)]
theorem own_c7 (ow : List (List Int)) (h0 : 1 ≤ ow.length) (i : Nat) : ((if i = 0 then [D.v (.slice none 0 0)] else [D.l (lenF ow i) (inF ow i)]) : List D).length = (ownsF (ow.set 0 []) i).length ∧ ∀ j, j < ((if i = 0 then [D.v (.slice none 0 0)] else [D.l (lenF ow i) (inF ow i)]) : List D).length → DLe (((if i = 0 then [D.v (.slice none 0 0)] else [D.l (lenF ow i) (inF ow i)]) : List D).getD j (.v undef)) ((ownsF (ow.set 0 []) i).getD j (.v undef)) := by
  have e1 : ownsF (ow.set 0 []) i = [ints (if i = 0 then [] else ow.getD i [])] := by
    show [ints ((ow.set 0 []).getD i [])] = _
    rw [set_head ow _ i (by omega)]
  rw [e1]
  by_cases e : i = 0
  · rw [if_pos e, if_pos e]
    refine ⟨rfl, fun j hj => ?_⟩
    obtain rfl : j = 0 := by simp at hj; omega
    exact DLe.nil _
  · rw [if_neg e, if_neg e]
    exact ⟨rfl, fun j hj => DLe.refl _⟩
theorem own_d7 (s : LS) (ow : List (List Int)) (h0 : 1 ≤ ow.length) : DLe (.l ow.length (nestEl s (lenF ow) (inF ow) [(0, .dat (.v (.slice none 0 0)))])) (owns (ow.set 0 [])) :=
  DLe.l2 (by rw [List.length_set]) fun i hi => by rw [nestEl_d1 i]; exact own_c7 ow h0 i
set_option maxHeartbeats 3200000 in
theorem c_spec_l6Bent (c : List Int) (hc : okCode c) (p : Int) (hp : 0 ≤ p) (hp2 : p ≤ 109951162) : MutS Try.prog 108 [.ptr 0 0] 1 [(0, srcBox c p)]
    (fun lv m' hp1 => ∃ (x : PolM) (q : Int), x.few ∧ p ≤ q ∧ q ≤ p + 70 ∧ lv = polLV x ∧ m' = 1 ∧ hp1 = [(0, srcBox c q)]) := by
  refine mutS_fn_of lv108 Try.func108 rfl rfl (by kernel_rfl) rfl ?_
  refine .inr ⟨rfl, use_mutS ⟨_, _, _, _, rfl, rfl, c_spec_l6Policy c hc p hp (by omega), rfl, ?_⟩⟩
  rintro _ _ _ ⟨x, q, hx, hq1, hq2, rfl, rfl, rfl⟩
  refine ⟨rfl, ?_⟩
  have hfew := hx.few
  obtain ⟨ow, ln, bl, pn⟩ := x
  have h0 : 1 ≤ ow.length := hx.own
  have h03 : ow.length ≤ 3 := hx.own3
  have h1 : 1 ≤ (ow.getD 0 []).length ∧ (ow.getD 0 []).length ≤ 3 := hx.ins 0 hx.own
  have h2 : 1 ≤ pn.length := hx.pln
  have hll : ln.length ≤ 3 := hx.lns
  have hbl : bl.length ≤ 2 := hx.bls
  have hpl : pn.length ≤ 4 := hx.pln4
  have hins : ∀ i, i < ow.length → (ow.getD i []).length ≤ 3 := fun i hi => (hx.ins i hi).2
  have hp0 : 0 ≤ q := by omega
  have hlen1 : (ow ++ [ow.getD 0 []]).length = ow.length + 1 := by simp
  have hins1 : ∀ i, i < (ow ++ [ow.getD 0 []]).length → ((ow ++ [ow.getD 0 []]).getD i []).length ≤ 3 := fun i hi => by
    by_cases e : i < ow.length
    · have e2 : (ow ++ [ow.getD 0 []]).getD i [] = ow.getD i [] := by simp only [List.getD]; rw [List.getElem?_append_left e]
      rw [e2]; exact hins i e
    · obtain rfl : i = ow.length := by omega
      rw [app_last]; exact h1.2
  have hset : ∀ m : List Int, m.length ≤ 3 → ∀ i, i < (ow.set 0 m).length → ((ow.set 0 m).getD i []).length ≤ 3 := fun m hm i hi => by
    rw [List.length_set] at hi
    rw [set_head ow m i (by omega)]
    split
    · exact hm
    · exact hins i hi
  repeat' (first | refine bsplit_true ?_ | refine bsplit_false ?_ | (refine .inr ⟨rfl, use_mut ⟨?_, ?_, ?_, ?_, ?_, ?_, ?_, ?_, ?_, ?_, ?_⟩⟩; rotate_left 6; exact rfl; exact rfl; (first | (refine c_spec_l1Next c hc _ _ ?_ ?_ <;> (first | omega | (dsimp only; omega))) | (refine pick3 c hc _ _ _ _ ?_ ?_ <;> (first | omega | (dsimp only; omega))) | (refine pick4 c hc _ _ _ _ _ ?_ ?_ <;> (first | omega | (dsimp only; omega))) | (refine pick2 c hc _ _ _ ?_ ?_ <;> (first | omega | (dsimp only; omega))) | (refine pick6 c hc _ _ _ _ _ _ _ ?_ ?_ <;> (first | omega | (dsimp only; omega))) | (refine pick7 c hc _ _ _ _ _ _ _ _ ?_ ?_ <;> (first | omega | (dsimp only; omega))) | (refine pick5 c hc _ _ _ _ _ _ ?_ ?_ <;> (first | omega | (dsimp only; omega)))); rfl))
  refine bsplit_intro (fun e => ?_) (fun _ => ?_)
  · refine ask_intro ⟨by omega, by show (0 : Int) < (ow.length : Int); omega⟩ ?_
    refine ask_intro (by show 0 < ow.length; omega) ?_
    refine .inr ⟨_, _, use_mut ⟨_, _, _, _, _, _, rfl, rfl, pick3 c hc (q + 1) (-1) 24 3 (by omega) (by omega), rfl, ⟨rfl, rfl⟩⟩, ?_⟩
    refine ask_intro ⟨by omega, by show (0 : Int) < ((ow.getD 0 []).length : Int); omega⟩ ?_
    refine ask_intro (by show 0 < (ow.getD 0 []).length; omega) ?_
    refine chk_intro (by kernel_rfl) ?_
    exact ⟨_, _, _, [], ⟨⟨ow.set 0 ((ow.getD 0 []).set 0 (pk c (q + 1) [-1, 24, 3])), ln, bl, pn⟩, q + 1 + 1, ⟨by show (ow.set 0 _).length ≤ 4; rw [List.length_set]; omega, hset _ (by rw [List.length_set]; exact h1.2), by show ln.length ≤ 5; omega, by show bl.length ≤ 4; omega, by show pn.length ≤ 9; omega⟩, by omega, by omega, rfl, rfl, rfl⟩, chk_intro (by kernel_rfl) ⟨⟨tellV_frzH rfl rfl rfl (DLe.l (by rw [List.length_set]) (fun i hi => Eq.trans (nestEl_h1 rfl i) (own_c0 ow h0 h1.1 _ i))), tellV_frz rfl rfl rfl (DLe.refl _), tellV_frz rfl rfl rfl (DLe.refl _), tellV_frz rfl rfl rfl (DLe.refl _), trivial⟩, tellHp_box rfl rfl ⟨DLe.refl _, rfl, trivial⟩ tellHp_nil⟩⟩
  refine bsplit_intro (fun e => ?_) (fun _ => ?_)
  · refine ask_intro ⟨by omega, by show (0 : Int) < (ow.length : Int); omega⟩ ?_
    refine ask_intro (by show 0 < ow.length; omega) ?_
    refine ask_intro trivial ?_
    refine ask_intro ⟨by show (ow.length + 1) * 24 ≤ 140737488355328; omega, by show ow.length + 1 ≤ 9223372036854775807; omega, by show 0 < ow.length; omega, trivial⟩ ?_
    refine chk_intro (by kernel_rfl) ?_
    exact ⟨_, _, _, [], ⟨⟨ow ++ [ow.getD 0 []], ln, bl, pn⟩, q + 1, ⟨by show (ow ++ _).length ≤ 4; omega, hins1, by show ln.length ≤ 5; omega, by show bl.length ≤ 4; omega, by show pn.length ≤ 9; omega⟩, by omega, by omega, rfl, rfl, rfl⟩, chk_intro (by kernel_rfl) ⟨⟨tellV_frzH rfl rfl rfl (DLe.l hlen1.symm (fun i hi => Eq.trans (nestEl_h2 rfl i) (own_c1 ow h0 i hi))), tellV_frz rfl rfl rfl (DLe.refl _), tellV_frz rfl rfl rfl (DLe.refl _), tellV_frz rfl rfl rfl (DLe.refl _), trivial⟩, tellHp_box rfl rfl ⟨DLe.refl _, rfl, trivial⟩ tellHp_nil⟩⟩
  refine bsplit_intro (fun e => ?_) (fun _ => ?_)
  · exact ⟨_, _, _, [], ⟨⟨[], ln, bl, pn⟩, q + 1, ⟨by show (0 : Nat) ≤ 4; omega, fun i hi => absurd hi (Nat.not_lt_zero _), hfew.lns, hfew.bls, hfew.pln⟩, by omega, by omega, rfl, rfl, rfl⟩, chk_intro (by kernel_rfl) ⟨⟨DLe.nil _, tellV_frz rfl rfl rfl (DLe.refl _), tellV_frz rfl rfl rfl (DLe.refl _), tellV_frz rfl rfl rfl (DLe.refl _), trivial⟩, tellHp_box rfl rfl ⟨DLe.refl _, rfl, trivial⟩ tellHp_nil⟩⟩
  refine bsplit_intro (fun e => ?_) (fun _ => ?_)
  · refine .inr ⟨_, _, use_mut ⟨_, _, _, _, _, _, rfl, rfl, c_spec_l1Next c hc (q + 1) 3 (by omega) (by omega), rfl, ⟨rfl, rfl⟩⟩, ?_⟩
    refine .inr ⟨_, _, use_mut ⟨_, _, _, _, _, _, rfl, rfl, c_spec_l1Next c hc (q + 1 + 1) 4 (by omega) (by omega), rfl, ⟨rfl, rfl⟩⟩, ?_⟩
    refine .inr ⟨_, _, use_mut ⟨_, _, _, _, _, _, rfl, rfl, pick3 c hc (q + 1 + 1 + 1) 0 23 24 (by omega) (by omega), rfl, ⟨rfl, rfl⟩⟩, ?_⟩
    refine .inr ⟨_, _, use_mut ⟨_, _, _, _, _, _, rfl, rfl, pick2 c hc (q + 1 + 1 + 1 + 1) 5 4 (by omega) (by omega), rfl, ⟨rfl, rfl⟩⟩, ?_⟩
    refine .inr ⟨_, _, use_mut ⟨_, _, _, _, _, _, rfl, rfl, pick3 c hc (q + 1 + 1 + 1 + 1 + 1) 6 7 5 (by omega) (by omega), rfl, ⟨rfl, rfl⟩⟩, ?_⟩
    refine ask_intro ⟨by show (ln.length + 1) * 40 ≤ 140737488355328; omega, by show ln.length + 1 ≤ 9223372036854775807; omega, fun i hi => ?_⟩ ?_
    · obtain rfl : i = 0 := by omega
      rfl
    refine chk_intro (by kernel_rfl) ?_
    exact ⟨_, _, _, [], ⟨⟨ow, ln ++ [(⟨nx c (q + 1) 3, nx c (q + 1 + 1) 4, pk c (q + 1 + 1 + 1) [0, 23, 24], pk c (q + 1 + 1 + 1 + 1) [5, 4], pk c (q + 1 + 1 + 1 + 1 + 1) [6, 7, 5]⟩ : LaneM)], bl, pn⟩, q + 1 + 1 + 1 + 1 + 1 + 1, ⟨hfew.own, hfew.ins, by show (ln ++ [_]).length ≤ 5; rw [List.length_append]; show ln.length + 1 ≤ 5; omega, hfew.bls, hfew.pln⟩, by omega, by omega, rfl, rfl, rfl⟩, chk_intro (by kernel_rfl) ⟨⟨tellV_frzN rfl rfl rfl (DLe.refl _), tellV_frz rfl rfl rfl (DLe.l (by rw [List.length_append]; rfl) (fun i hi => app_lane1 ln (⟨nx c (q + 1) 3, nx c (q + 1 + 1) 4, pk c (q + 1 + 1 + 1) [0, 23, 24], pk c (q + 1 + 1 + 1 + 1) [5, 4], pk c (q + 1 + 1 + 1 + 1 + 1) [6, 7, 5]⟩ : LaneM) i hi)), tellV_frz rfl rfl rfl (DLe.refl _), tellV_frz rfl rfl rfl (DLe.refl _), trivial⟩, tellHp_box rfl rfl ⟨DLe.refl _, rfl, trivial⟩ tellHp_nil⟩⟩
  refine bsplit_intro (fun e => ?_) (fun _ => ?_)
  · refine .inr ⟨_, _, use_mut ⟨_, _, _, _, _, _, rfl, rfl, c_spec_l1Next c hc (q + 1) 3 (by omega) (by omega), rfl, ⟨rfl, rfl⟩⟩, ?_⟩
    refine .inr ⟨_, _, use_mut ⟨_, _, _, _, _, _, rfl, rfl, c_spec_l1Next c hc (q + 1 + 1) 4 (by omega) (by omega), rfl, ⟨rfl, rfl⟩⟩, ?_⟩
    refine ask_intro ⟨by show (bl.length + 2) * 16 ≤ 140737488355328; omega, by show bl.length + 2 ≤ 9223372036854775807; omega, fun i hi => ?_⟩ ?_
    · obtain rfl | rfl : i = 0 ∨ i = 1 := by omega
      · rfl
      · rfl
    refine chk_intro (by kernel_rfl) ?_
    exact ⟨_, _, _, [], ⟨⟨ow, ln, bl ++ [(⟨nx c (q + 1) 3, nx c (q + 1 + 1) 4⟩ : BellM), ⟨0, 1⟩], pn⟩, q + 1 + 1 + 1, ⟨hfew.own, hfew.ins, hfew.lns, by show (bl ++ _).length ≤ 4; rw [List.length_append]; show bl.length + 2 ≤ 4; omega, hfew.pln⟩, by omega, by omega, rfl, rfl, rfl⟩, chk_intro (by kernel_rfl) ⟨⟨tellV_frzN rfl rfl rfl (DLe.refl _), tellV_frz rfl rfl rfl (DLe.refl _), tellV_frz rfl rfl rfl (DLe.l (by rw [List.length_append]; rfl) (fun i hi => app_bell2 bl (⟨nx c (q + 1) 3, nx c (q + 1 + 1) 4⟩ : BellM) ⟨0, 1⟩ i hi)), tellV_frz rfl rfl rfl (DLe.refl _), trivial⟩, tellHp_box rfl rfl ⟨DLe.refl _, rfl, trivial⟩ tellHp_nil⟩⟩
  refine bsplit_intro (fun e => ?_) (fun _ => ?_)
  · refine .inr ⟨_, _, use_mut ⟨_, _, _, _, _, _, rfl, rfl, pick3 c hc (q + 1) 0 (-1) 3 (by omega) (by omega), rfl, ⟨rfl, rfl⟩⟩, ?_⟩
    refine .inr ⟨_, _, use_mut ⟨_, _, _, _, _, _, rfl, rfl, pick4 c hc (q + 1 + 1) 0 1 50 51 (by omega) (by omega), rfl, ⟨rfl, rfl⟩⟩, ?_⟩
    refine ask_intro ⟨by omega, by show (0 : Int) < (pn.length : Int); omega⟩ ?_
    refine ask_intro (by show 0 < pn.length; omega) ?_
    refine chk_intro (by kernel_rfl) ?_
    exact ⟨_, _, _, [], ⟨⟨ow, ln, bl, pn.set 0 (⟨pk c (q + 1) [0, -1, 3], pk c (q + 1 + 1) [0, 1, 50, 51]⟩ : SlotM)⟩, q + 1 + 1 + 1, ⟨hfew.own, hfew.ins, hfew.lns, hfew.bls, by show (pn.set 0 _).length ≤ 9; rw [List.length_set]; omega⟩, by omega, by omega, rfl, rfl, rfl⟩, chk_intro (by kernel_rfl) ⟨⟨tellV_frzN rfl rfl rfl (DLe.refl _), tellV_frz rfl rfl rfl (DLe.refl _), tellV_frz rfl rfl rfl (DLe.refl _), tellV_frz rfl rfl rfl (DLe.l (by rw [List.length_set]) (fun i hi => set_slot (l := pn) (z := ⟨pk c (q + 1) [0, -1, 3], pk c (q + 1 + 1) [0, 1, 50, 51]⟩) (by omega) i)), trivial⟩, tellHp_box rfl rfl ⟨DLe.refl _, rfl, trivial⟩ tellHp_nil⟩⟩
  refine bsplit_intro (fun e => ?_) (fun _ => ?_)
  · refine ask_intro ⟨rfl, by omega, by show (9 : Int) * 16 ≤ 140737488355328; omega, by omega⟩ ?_
    exact ⟨_, _, _, [], ⟨⟨ow, ln, bl, List.replicate 9 ⟨0, 0⟩⟩, q + 1, ⟨hfew.own, hfew.ins, hfew.lns, hfew.bls, by show (List.replicate 9 _).length ≤ 9; simp⟩, by omega, by omega, rfl, rfl, rfl⟩, chk_intro (by kernel_rfl) ⟨⟨tellV_frzN rfl rfl rfl (DLe.refl _), tellV_frz rfl rfl rfl (DLe.refl _), tellV_frz rfl rfl rfl (DLe.refl _), tellV_frz rfl rfl rfl (DLe.l (by simp) (fun i hi => rep_slot i hi)), trivial⟩, tellHp_box rfl rfl ⟨DLe.refl _, rfl, trivial⟩ tellHp_nil⟩⟩
  refine bsplit_intro (fun e => ?_) (fun _ => ?_)
  · refine ask_intro ⟨by omega, by show (0 : Int) < (ow.length : Int); omega⟩ ?_
    refine ask_intro (by show 0 < ow.length; omega) ?_
    exact ⟨_, _, _, [], ⟨⟨ow.set 0 [], ln, bl, pn⟩, q + 1, ⟨by show (ow.set 0 _).length ≤ 4; rw [List.length_set]; omega, hset [] (by simp), hfew.lns, hfew.bls, hfew.pln⟩, by omega, by omega, rfl, rfl, rfl⟩, chk_intro (by kernel_rfl) ⟨⟨tellV_frzH rfl rfl rfl (own_d7 _ ow h0), tellV_frz rfl rfl rfl (DLe.refl _), tellV_frz rfl rfl rfl (DLe.refl _), tellV_frz rfl rfl rfl (DLe.refl _), trivial⟩, tellHp_box rfl rfl ⟨DLe.refl _, rfl, trivial⟩ tellHp_nil⟩⟩
  refine bsplit_intro (fun e => ?_) (fun _ => ?_)
  · refine ask_intro ⟨rfl, by omega, by show (5 : Int) * 40 ≤ 140737488355328; omega, by omega⟩ ?_
    exact ⟨_, _, _, [], ⟨⟨ow, List.replicate 5 ⟨0, 0, 0, 0, 0⟩, bl, pn⟩, q + 1, ⟨hfew.own, hfew.ins, by show (List.replicate 5 _).length ≤ 5; simp, hfew.bls, hfew.pln⟩, by omega, by omega, rfl, rfl, rfl⟩, chk_intro (by kernel_rfl) ⟨⟨tellV_frzN rfl rfl rfl (DLe.refl _), tellV_frz rfl rfl rfl (DLe.l (by simp) (fun i hi => rep_lane i hi)), tellV_frz rfl rfl rfl (DLe.refl _), tellV_frz rfl rfl rfl (DLe.refl _), trivial⟩, tellHp_box rfl rfl ⟨DLe.refl _, rfl, trivial⟩ tellHp_nil⟩⟩
  exact ⟨_, _, _, [], ⟨⟨ow, ln, bl, pn⟩, q + 1, hfew, by omega, by omega, rfl, rfl, rfl⟩, chk_intro (by kernel_rfl) ⟨⟨tellV_frzN rfl rfl rfl (DLe.refl _), tellV_frz rfl rfl rfl (DLe.refl _), tellV_frz rfl rfl rfl (DLe.refl _), tellV_frz rfl rfl rfl (DLe.refl _), trivial⟩, tellHp_box rfl rfl ⟨DLe.refl _, rfl, trivial⟩ tellHp_nil⟩⟩
end Go.Proofs.Ytojaakpnpdnbhaa.L

/- Images for a policy's guests, drawn: contracts. -/
set_option linter.unusedVariables false
set_option linter.unusedSimpArgs false
set_option maxRecDepth 100000
namespace Go.Proofs.Ytojaakpnpdnbhaa.L
open Go.RowKit
def imOK (B : Nat) (l : List (List Int)) : Prop := ∀ i, i < l.length → (l.getD i []).length ≤ B
theorem imOK_snoc {B : Nat} {l : List (List Int)} {m : List Int} (h : imOK B l) (hm : m.length ≤ B) : imOK B (l ++ [m]) := fun i hi => by
  by_cases e : i < l.length
  · have e2 : (l ++ [m]).getD i [] = l.getD i [] := by simp only [List.getD]; rw [List.getElem?_append_left e]
    rw [e2]; exact h i e
  · obtain rfl : i = l.length := by rw [List.length_append, List.length_cons, List.length_nil] at hi; omega
    rw [app_last]; exact hm
set_option maxHeartbeats 3200000 in
theorem c_spec_l7Images2 (c : List Int) (hc : okCode c) (p : Int) (hp : 0 ≤ p) (hp2 : p ≤ 100000) (x : PolM) (hx : x.few) : MutS Try.prog 109 [.ptr 0 0, polLV x] 1 [(0, srcBox c p)]
    (fun lv m' hp1 => ∃ (l : List (List Int)) (q : Int), l.length = x.own.length ∧ imOK 24 l ∧ p ≤ q ∧ q ≤ p + 1600 ∧ lv = .row 1 ∧ m' = 2 ∧ hp1 = [(0, srcBox c q), (1, nestE l)]) := by
  have hown := hx.own
  refine mutS_fn_of lv109 Try.func109 rfl rfl (by kernel_rfl) rfl ?_
  refine ask_intro trivial ?_
  refine ⟨{ y : List (List Int) × Int // y.1.length ≤ x.own.length ∧ imOK 24 y.1 ∧ p ≤ y.2 ∧ y.2 ≤ p + 400 * y.1.length }, fun y => ⟨frL [(0, .ptr 0 0), (3, .ptr 13 0), (5, .row 11), (6, di y.1.1.length)], hpL [(0, srcBox c y.1.2), (13, .box 38 [.d (owns x.own), .d (lanes x.lns), .d (bells x.bls), .d (slots x.pln)]), (11, nestE y.1.1)], 100, 1⟩, fun y => x.own.length - y.1.1.length, ⟨([], p), Nat.zero_le _, fun i hi => absurd hi (Nat.not_lt_zero _), by show p ≤ p; omega, by show p ≤ p + 400 * ((0 : Nat) : Int); omega⟩,
    le_of [(13, 1), (11, 4097)] rfl rfl rfl rfl (tellHp_box rfl rfl ⟨DLe.refl _, rfl, trivial⟩ (tellHp_box rfl rfl ⟨DLe.refl _, DLe.refl _, DLe.refl _, DLe.refl _, trivial⟩ (tellHp_nest rfl rfl rfl (fun i hi => absurd hi (Nat.not_lt_zero _)) tellHp_nil))) (tellFr_ptr rfl rfl (tellFr_ptr rfl rfl (tellFr_row rfl rfl (tellFr_v rfl rfl trivial)))), ?_⟩
  rintro ⟨⟨l, q⟩, h1, h2, h3, h4⟩
  simp only at h1 h2 h3 h4
  by_cases h : l.length < x.own.length
  · have hr3 := hx.ins l.length h
    have hwn : IntKind.i64.wrap (IntKind.i64.wrap (((x.own.getD l.length []).length : Int) * 8) + 1) = ((x.own.getD l.length []).length : Int) * 8 + 1 := by
      rw [wrap_i64 (((x.own.getD l.length []).length : Int) * 8) (by omega) (by omega)]
      exact wrap_i64 _ (by omega) (by omega)
    have cn := c_spec_l1Next c hc q (IntKind.i64.wrap (IntKind.i64.wrap (((x.own.getD l.length []).length : Int) * 8) + 1)) (by omega) (by omega)
    obtain ⟨n, hn⟩ : ∃ n, n = nx c q (IntKind.i64.wrap (IntKind.i64.wrap (((x.own.getD l.length []).length : Int) * 8) + 1)) := ⟨_, rfl⟩
    have hnb := nx_in (c := c) hc (p := q) (n := IntKind.i64.wrap (IntKind.i64.wrap (((x.own.getD l.length []).length : Int) * 8) + 1)) (by omega) (by rw [hwn]; omega)
    rw [← hn, hwn] at hnb
    rw [← hn] at cn
    have ci := c_spec_l7Image c hc (q + 1) n (by omega) (by omega) (by omega) hnb.1
    refine bsplit_of_true (decide_eq_true (show (l.length : Int) < (x.own.length : Int) by omega)) ?_
    refine ask_intro ⟨by omega, by show (l.length : Int) < (x.own.length : Int); omega, rfl⟩ ?_
    refine .inr ⟨rfl, use_mut ⟨_, _, _, _, _, _, rfl, rfl, cn, rfl, ?_⟩⟩
    refine .inr ⟨rfl, use_mutS ⟨_, _, _, _, rfl, rfl, ci, rfl, ?_⟩⟩
    rintro _ _ _ ⟨m, q1, hm, hq1, hq2, rfl, rfl, rfl⟩
    refine ⟨rfl, ?_⟩
    have hsl : (l ++ [m]).length = l.length + 1 := by simp
    have hm24 : m.length ≤ 24 := by omega
    refine ask_intro trivial ?_
    refine ask_intro ⟨by show (l.length + 1) * 24 ≤ 140737488355328; omega, by show l.length + 1 ≤ 9223372036854775807; omega, trivial⟩ ?_
    refine ⟨⟨(l ++ [m], q1), by show (l ++ [m]).length ≤ x.own.length; omega, imOK_snoc h2 hm24, by show p ≤ q1; omega, by show q1 ≤ p + 400 * ((l ++ [m]).length : Int); omega⟩,
      le_of [(13, 13), (11, 4644)] rfl rfl rfl rfl (tellHp_box rfl rfl ⟨DLe.refl _, rfl, trivial⟩ (tellHp_box rfl rfl ⟨DLe.refl _, DLe.refl _, DLe.refl _, DLe.refl _, trivial⟩ (tellHp_hole rfl rfl rfl rfl rfl hsl.symm ⟨?_, fun j hj => ?_⟩ (fun j hj hne => ⟨?_, fun u hu => ?_⟩) tellHp_nil))) (tellFr_ptr rfl rfl (tellFr_ptr rfl rfl (tellFr_row rfl rfl (tellFr_v rfl (congrArg (Value.int .i64) ?_) trivial)))), by show x.own.length - (l ++ [m]).length < x.own.length - l.length; omega⟩
    · show m.length = ((l ++ [m]).getD l.length []).length
      rw [app_last]
    · show intsF m j = intsF ((l ++ [m]).getD l.length []) j
      rw [app_last]
    · have hj : j < l.length + 1 := hj
      have hne : j ≠ l.length := hne
      show (if j < l.length then lenF l j else 0) = _
      rw [if_pos (by omega)]
      exact (app_in l m j (by omega)).1
    · have hj : j < l.length + 1 := hj
      have hne : j ≠ l.length := hne
      show (if j < l.length then inF l j else fun _ => []) u = _
      rw [if_pos (by omega)]
      exact (app_in l m j (by omega)).2 u
    · show IntKind.i64.wrap ((l.length : Int) + 1) = ((l ++ [m]).length : Int)
      rw [hsl]
      exact wrap1 h (by omega)
  · have hl : l.length = x.own.length := by omega
    refine bsplit_of_false (decide_eq_false (show ¬ (l.length : Int) < (x.own.length : Int) by omega)) ?_
    exact ⟨_, _, _, [(1, 11)], ⟨l, q, hl, h2, h3, by omega, rfl, rfl, rfl⟩, chk_intro (by kernel_rfl) ⟨rfl, tellHp_box rfl rfl ⟨DLe.refl _, rfl, trivial⟩ (tellHp_nest rfl rfl rfl (fun i hi => ⟨rfl, fun j hj => rfl⟩) tellHp_nil)⟩⟩
end Go.Proofs.Ytojaakpnpdnbhaa.L

/- The draw of LoadImages: contracts. -/
set_option linter.unusedVariables false
set_option linter.unusedSimpArgs false
set_option maxRecDepth 100000
namespace Go.Proofs.Ytojaakpnpdnbhaa.L
open Go.RowKit
theorem nestEl_dn {s : LS} {L : Nat → Nat} {f : Nat → Nat → List D} {x : D} {n : Nat} (i : Nat) : nestEl s L f [(n, .dat x)] i = if i = n then [x] else [.l (L i) (f i)] := by
  unfold nestEl nOf
  simp only [lookN]
  by_cases h1 : i = n
  · subst h1
    rw [Nat.beq_refl, cond_true, if_pos rfl]
  · have e1 : Nat.beq i n = false := by rw [← Bool.not_eq_true, Nat.beq_eq]; exact h1
    rw [e1, cond_false, if_neg h1]
theorem own_an (l : List (List Int)) (i : Nat) (hi : i < l.length + 1) : ((if i = l.length then [D.v (.slice none 0 0)] else [D.l (uptoN l.length (lenF l) (fun _ => 0) i) (uptoN l.length (inF l) (fun _ _ => []) i)]) : List D).length = (ownsF (l ++ [[]]) i).length ∧ ∀ j, j < ((if i = l.length then [D.v (.slice none 0 0)] else [D.l (uptoN l.length (lenF l) (fun _ => 0) i) (uptoN l.length (inF l) (fun _ _ => []) i)]) : List D).length → DLe (((if i = l.length then [D.v (.slice none 0 0)] else [D.l (uptoN l.length (lenF l) (fun _ => 0) i) (uptoN l.length (inF l) (fun _ _ => []) i)]) : List D).getD j (.v undef)) ((ownsF (l ++ [[]]) i).getD j (.v undef)) := by
  have e1 : ownsF (l ++ [[]]) i = [ints ((l ++ [[]]).getD i [])] := rfl
  rw [e1]
  by_cases e : i = l.length
  · rw [if_pos e, e, app_last]
    refine ⟨rfl, fun j hj => ?_⟩
    obtain rfl : j = 0 := by simp at hj; omega
    exact DLe.nil _
  · have hl : (l ++ [[]]).getD i [] = l.getD i [] := by simp only [List.getD]; rw [List.getElem?_append_left (by omega)]
    rw [if_neg e, hl]
    unfold uptoN
    rw [if_pos (by omega), if_pos (by omega)]
    exact ⟨rfl, fun j hj => DLe.refl _⟩
theorem own_s0 (l : List (List Int)) (m : List Int) (h0 : 0 < l.length) (h : Nat → List D) (hh : ∀ j, j < m.length → h j = intsF m j) (i : Nat) : ((if i = 0 then [D.l m.length h] else [D.l (lenF l i) (inF l i)]) : List D).length = (ownsF (l.set 0 m) i).length ∧ ∀ j, j < ((if i = 0 then [D.l m.length h] else [D.l (lenF l i) (inF l i)]) : List D).length → DLe (((if i = 0 then [D.l m.length h] else [D.l (lenF l i) (inF l i)]) : List D).getD j (.v undef)) ((ownsF (l.set 0 m) i).getD j (.v undef)) := by
  have e1 : ownsF (l.set 0 m) i = [ints (if i = 0 then m else l.getD i [])] := by
    show [ints ((l.set 0 m).getD i [])] = _
    rw [set_head l _ i h0]
  rw [e1]
  by_cases e : i = 0
  · rw [if_pos e, if_pos e]
    refine ⟨rfl, fun j hj => ?_⟩
    obtain rfl : j = 0 := by simp at hj; omega
    exact DLe.l rfl hh
  · rw [if_neg e, if_neg e]
    exact ⟨rfl, fun j hj => DLe.refl _⟩
theorem own_dn (s : LS) (l : List (List Int)) : DLe (.l (l.length + 1) (nestEl s (uptoN l.length (lenF l) (fun _ => 0)) (uptoN l.length (inF l) (fun _ _ => [])) [(l.length, .dat (.v (.slice none 0 0)))])) (owns (l ++ [[]])) :=
  DLe.l2 (by rw [List.length_append, List.length_cons, List.length_nil]) fun i hi => by rw [nestEl_dn i]; exact own_an l i hi
theorem own_h0 {s : LS} {k : Nat} {e : TypeId} {sz : Nat} (l : List (List Int)) (m : List Int) {h : Nat → List D} (hk : s.hp k = some (.row e sz m.length h)) (h0 : 0 < l.length) (hh : ∀ j, j < m.length → h j = intsF m j) : DLe (.l l.length (nestEl s (lenF l) (inF l) [(0, .hole k)])) (owns (l.set 0 m)) :=
  DLe.l2 (by rw [List.length_set]) fun i hi => by rw [nestEl_h1 hk i]; exact own_s0 l m h0 h hh i
theorem rep_ints (n j : Nat) (hj : j < n) : [D.v (.int .i64 0)] = intsF (List.replicate n 0) j := by
  show _ = [D.v (.int .i64 ((List.replicate n (0 : Int)).getD j 0))]
  simp [List.getD, hj]
theorem imOK_set {B : Nat} {l : List (List Int)} {m : List Int} (h : imOK B l) (hm : m.length ≤ B) (h0 : 0 < l.length) : imOK B (l.set 0 m) := fun i hi => by
  rw [List.length_set] at hi
  rw [set_head l m i h0]
  split
  · exact hm
  · exact h i hi
theorem imOK.mono {B B' : Nat} {l : List (List Int)} (h : imOK B l) (hB : B ≤ B') : imOK B' l := fun i hi => Nat.le_trans (h i hi) hB
set_option maxHeartbeats 3200000 in
theorem c_spec_DrawLoadImages (c : List Int) (hc : okCode c) : MutS Try.prog 48 [.d (bytesD c)] 0 []
    (fun lv m' hp1 => ∃ (x : PolM) (l : List (List Int)), x.few ∧ l.length ≤ 5 ∧ imOK 41 l ∧ lv = .tup [polLV x, .d (owns l)] ∧ m' = 0 ∧ hp1 = []) := by
  refine mutS_fn_of lv48 Try.func48 rfl rfl (by kernel_rfl) rfl ?_
  refine .inr ⟨rfl, use_mut ⟨_, _, _, _, _, _, rfl, rfl, c_spec_l1Source c, rfl, ?_⟩⟩
  refine .inr ⟨rfl, use_mutS ⟨_, _, _, _, rfl, rfl, c_spec_l6Bent c hc 0 (by omega) (by omega), rfl, ?_⟩⟩
  rintro _ _ _ ⟨x, q, hx, hq1, hq2, rfl, rfl, rfl⟩
  refine ⟨rfl, ?_⟩
  have hown := hx.own
  refine .inr ⟨rfl, use_mutS ⟨_, _, _, _, rfl, rfl, c_spec_l7Images2 c hc q (by omega) (by omega) x hx, rfl, ?_⟩⟩
  rintro _ _ _ ⟨l, q1, hll, hi, hr1, hr2, rfl, rfl, rfl⟩
  refine ⟨rfl, ?_⟩
  have hi41 := hi.mono (show 24 ≤ 41 by omega)
  refine .inr ⟨rfl, use_mut ⟨_, _, _, _, _, _, rfl, rfl, c_spec_l1Next c hc q1 12 (by omega) (by omega), rfl, ?_⟩⟩
  refine bsplit_intro (fun e => ?_) (fun _ => ?_)
  · refine ask_intro trivial ?_
    refine ask_intro ⟨by show (l.length + 1) * 24 ≤ 140737488355328; omega, by show l.length + 1 ≤ 9223372036854775807; omega, trivial⟩ ?_
    exact ⟨_, _, _, [], ⟨x, l ++ [[]], hx, by rw [List.length_append, List.length_cons, List.length_nil]; omega, imOK_snoc hi41 (by simp), rfl, rfl, rfl⟩, chk_intro (by kernel_rfl) ⟨⟨⟨DLe.refl _, DLe.refl _, DLe.refl _, DLe.refl _, trivial⟩, tellV_frzH rfl rfl rfl (own_dn _ l), trivial⟩, tellHp_nil⟩⟩
  refine bsplit_intro (fun e => ?_) (fun _ => ?_)
  · by_cases h0 : 0 < l.length
    · refine ask_intro trivial ?_
      refine bsplit_of_true (decide_eq_true (show (l.length : Int) > 0 by omega)) ?_
      refine ask_intro ⟨rfl, by omega, by decide, by omega⟩ ?_
      refine ask_intro ⟨by omega, by show (0 : Int) < (l.length : Int); omega⟩ ?_
      refine ask_intro (by show 0 < l.length; omega) ?_
      exact ⟨_, _, _, [], ⟨x, l.set 0 (List.replicate 41 0), hx, by rw [List.length_set]; omega, imOK_set hi41 (by simp) h0, rfl, rfl, rfl⟩, chk_intro (by kernel_rfl) ⟨⟨⟨DLe.refl _, DLe.refl _, DLe.refl _, DLe.refl _, trivial⟩, tellV_frzH rfl rfl rfl (own_h0 l (List.replicate 41 0) rfl h0 (fun j hj => rep_ints 41 j hj)), trivial⟩, tellHp_nil⟩⟩
    · refine ask_intro trivial ?_
      refine bsplit_of_false (decide_eq_false (show ¬ (l.length : Int) > 0 by omega)) ?_
      exact ⟨_, _, _, [], ⟨x, l, hx, by omega, hi41, rfl, rfl, rfl⟩, chk_intro (by kernel_rfl) ⟨⟨⟨DLe.refl _, DLe.refl _, DLe.refl _, DLe.refl _, trivial⟩, tellV_frzN rfl rfl rfl (DLe.refl _), trivial⟩, tellHp_nil⟩⟩
  refine bsplit_intro (fun e => ?_) (fun _ => ?_)
  · by_cases h0 : 0 < l.length
    · refine ask_intro trivial ?_
      refine bsplit_of_true (decide_eq_true (show (l.length : Int) > 0 by omega)) ?_
      refine .inr ⟨rfl, use_mut ⟨_, _, _, _, _, _, rfl, rfl, c_spec_l1Wide c hc (q1 + 1) (by omega) (by omega), rfl, ?_⟩⟩
      refine ask_intro ⟨by omega, by show (0 : Int) < (l.length : Int); omega⟩ ?_
      refine ask_intro (by show 0 < l.length; omega) ?_
      exact ⟨_, _, _, [], ⟨x, l.set 0 [wi c (q1 + 1)], hx, by rw [List.length_set]; omega, imOK_set hi41 (by simp) h0, rfl, rfl, rfl⟩, chk_intro (by kernel_rfl) ⟨⟨⟨DLe.refl _, DLe.refl _, DLe.refl _, DLe.refl _, trivial⟩, tellV_frzH rfl rfl rfl (own_h0 l [wi c (q1 + 1)] rfl h0 (fun j hj => litD_eq [wi c (q1 + 1)] j hj)), trivial⟩, tellHp_nil⟩⟩
    · refine ask_intro trivial ?_
      refine bsplit_of_false (decide_eq_false (show ¬ (l.length : Int) > 0 by omega)) ?_
      exact ⟨_, _, _, [], ⟨x, l, hx, by omega, hi41, rfl, rfl, rfl⟩, chk_intro (by kernel_rfl) ⟨⟨⟨DLe.refl _, DLe.refl _, DLe.refl _, DLe.refl _, trivial⟩, tellV_frzN rfl rfl rfl (DLe.refl _), trivial⟩, tellHp_nil⟩⟩
  exact ⟨_, _, _, [], ⟨x, l, hx, by omega, hi41, rfl, rfl, rfl⟩, chk_intro (by kernel_rfl) ⟨⟨⟨DLe.refl _, DLe.refl _, DLe.refl _, DLe.refl _, trivial⟩, tellV_frzN rfl rfl rfl (DLe.refl _), trivial⟩, tellHp_nil⟩⟩
end Go.Proofs.Ytojaakpnpdnbhaa.L

/- The law functions over policies answer true. -/
set_option linter.unusedVariables false
set_option linter.unusedSimpArgs false
set_option maxRecDepth 100000
namespace Go.Proofs.Ytojaakpnpdnbhaa.L
open Go.RowKit Go.ChangeShapes Go.WideShapes Go.ChangeAt
theorem reads_owns : ReadsT Try.prog 22 1 (List (List Int)) (fun l => [owns l]) (fun l => l.length * 24 ≤ reachBytes ∧ ∀ x ∈ l, okInts x) := ReadsT.slice reads_ints Try.underlying22 (by kernel_rfl) (by decide) [] (by kernel_rfl)
theorem reads_Lane : ReadsT Try.prog 171 5 LaneM laneD (fun p => ok64 p.frm ∧ ok64 p.to ∧ ok64 p.page ∧ ok64 p.af ∧ ok64 p.at_) :=
  (ReadsT.struct (ok := _) Try.underlying171 (by kernel_rfl) (ReadsL.cons reads_int64 (.cons reads_int64 (.cons reads_int64 (.cons reads_int64 (.cons reads_int64 (.nil 5))))))).map (fun m => ⟨m.1, m.2.1, m.2.2.1, m.2.2.2.1, m.2.2.2.2.1⟩) (fun m h => ⟨⟨h.1, h.2.1, h.2.2.1, h.2.2.2.1, h.2.2.2.2.1⟩, rfl⟩)
theorem reads_lanes : ReadsT Try.prog 23 1 (List LaneM) (fun l => [lanes l]) (fun l => l.length * 40 ≤ reachBytes ∧ ∀ p ∈ l, ok64 p.frm ∧ ok64 p.to ∧ ok64 p.page ∧ ok64 p.af ∧ ok64 p.at_) := ReadsT.slice reads_Lane Try.underlying23 (by kernel_rfl) (by decide) ⟨0, 0, 0, 0, 0⟩ (by kernel_rfl)
theorem reads_Bell : ReadsT Try.prog 175 2 BellM bellD (fun p => ok64 p.frm ∧ ok64 p.to) :=
  (ReadsT.struct (ok := _) Try.underlying175 (by kernel_rfl) (ReadsL.cons reads_int64 (.cons reads_int64 (.nil 2)))).map (fun m => ⟨m.1, m.2.1⟩) (fun m h => ⟨⟨h.1, h.2.1⟩, rfl⟩)
theorem reads_bells : ReadsT Try.prog 24 1 (List BellM) (fun l => [bells l]) (fun l => l.length * 16 ≤ reachBytes ∧ ∀ p ∈ l, ok64 p.frm ∧ ok64 p.to) := ReadsT.slice reads_Bell Try.underlying24 (by kernel_rfl) (by decide) ⟨0, 0⟩ (by kernel_rfl)
theorem reads_Slot : ReadsT Try.prog 179 2 SlotM slotD (fun p => ok64 p.guest ∧ ok64 p.steps) :=
  (ReadsT.struct (ok := _) Try.underlying179 (by kernel_rfl) (ReadsL.cons reads_int64 (.cons reads_int64 (.nil 2)))).map (fun m => ⟨m.1, m.2.1⟩) (fun m h => ⟨⟨h.1, h.2.1⟩, rfl⟩)
theorem reads_slots : ReadsT Try.prog 25 1 (List SlotM) (fun l => [slots l]) (fun l => l.length * 16 ≤ reachBytes ∧ ∀ p ∈ l, ok64 p.guest ∧ ok64 p.steps) := ReadsT.slice reads_Slot Try.underlying25 (by kernel_rfl) (by decide) ⟨0, 0⟩ (by kernel_rfl)
structure PolM.ok (x : PolM) : Prop where
  own : x.own.length * 24 ≤ reachBytes ∧ ∀ r ∈ x.own, okInts r
  lns : x.lns.length * 40 ≤ reachBytes ∧ ∀ p ∈ x.lns, ok64 p.frm ∧ ok64 p.to ∧ ok64 p.page ∧ ok64 p.af ∧ ok64 p.at_
  bls : x.bls.length * 16 ≤ reachBytes ∧ ∀ p ∈ x.bls, ok64 p.frm ∧ ok64 p.to
  pln : x.pln.length * 16 ≤ reachBytes ∧ ∀ p ∈ x.pln, ok64 p.guest ∧ ok64 p.steps
theorem PolM.ok.small {x : PolM} (h : x.ok) : x.small := by
  have e := reach_eq
  have a := h.own.1
  have b := h.lns.1
  have c := h.bls.1
  have d := h.pln.1
  refine ⟨by omega, fun i hi => ?_, by omega, by omega, by omega⟩
  have := (h.own.2 (x.own.getD i []) (by rw [getD_at _ hi]; exact List.getElem_mem hi)).1
  omega
theorem reads_Policy : ReadsT Try.prog 27 4 PolM polD PolM.ok :=
  (ReadsT.struct (ok := _) Try.underlying27 (by kernel_rfl) (ReadsL.cons reads_owns (.cons reads_lanes (.cons reads_bells (.cons reads_slots (.nil 4)))))).map (fun m => ⟨m.1, m.2.1, m.2.2.1, m.2.2.2.1⟩) (fun m h => ⟨⟨h.1, h.2.1, h.2.2.1, h.2.2.2.1⟩, rfl⟩)
theorem szP_of {x : PolM} {q : Int} (h : decide (szP x q < 0) = false) : (x.size : Int) ≤ q := by
  have h := of_decide_eq_false h
  unfold szP at h
  split at h <;> omega
end Go.Proofs.Ytojaakpnpdnbhaa.L

/- Images in the memory of a host, as the reference has them: contracts. -/
set_option linter.unusedVariables false
set_option linter.unusedSimpArgs false
set_option maxRecDepth 100000
namespace Go.Proofs.Ytojaakpnpdnbhaa.L
open Go.RowKit
theorem c_spec_l7Images (x : PolM) (hs : x.small) (imgs : List (List Int)) (hI : imgs.length ≤ 1048576) (hI2 : ∀ i, i < imgs.length → (imgs.getD i []).length ≤ 1048576) (h5 : ∀ i, i < x.own.length → (x.own.getD i []).length ≤ 5) : FnOK Try.prog 77 [polP x, .d (owns imgs)] (ri (imgCode x.own imgs)) := by
  obtain ⟨r, hr⟩ : ∃ r, r = imgCode x.own imgs := ⟨_, rfl⟩
  rw [← hr]
  unfold imgCode at hr
  refine fn_of lv77 Try.func77 rfl rfl (by kernel_rfl) rfl ?_
  refine bsplit_intro (fun h2 => ?_) (fun h2 => ?_)
  · have h2 : ¬ imgs.length = x.own.length := by simp at h2; omega
    rw [if_neg h2] at hr
    subst hr
    exact ⟨⟨rfl, trivial⟩, rfl⟩
  have h2 : imgs.length = x.own.length := by simp at h2; omega
  rw [if_pos h2] at hr
  refine ⟨{ g : Nat // g ≤ x.own.length ∧ tooLong x.own imgs g = false }, fun g => ⟨frL [(0, polP x), (1, .d (owns imgs)), (5, di g.1)], hpL [], 0, 0⟩, fun g => x.own.length - g.1, ⟨0, by omega, rfl⟩,
    le_of [] rfl rfl rfl rfl trivial (tellFr_x rfl ⟨DLe.refl _, DLe.refl _, DLe.refl _, DLe.refl _, trivial⟩ (tellFr_d rfl (DLe.refl _) (tellFr_v rfl rfl trivial))), ?_⟩
  rintro ⟨g, hg, hlong⟩
  by_cases hg2 : g < x.own.length
  rotate_left
  · obtain rfl : g = x.own.length := by omega
    rw [hlong] at hr
    have hr : r = 0 := hr
    subst hr
    refine bsplit_of_false (decide_eq_false (show ¬ (x.own.length : Int) < (imgs.length : Int) by omega)) ?_
    exact ⟨⟨rfl, trivial⟩, rfl⟩
  have hr5 := h5 g hg2
  have hwr := congrArg (Value.int .i64) (wrap1 hg2 (by omega))
  have hw8 : IntKind.i64.wrap (((x.own.getD g []).length : Int) * 8) = ((x.own.getD g []).length : Int) * 8 := wrap_i64 _ (by omega) (by omega)
  refine bsplit_of_true (decide_eq_true (show (g : Int) < (imgs.length : Int) by omega)) ?_
  refine ask_intro ⟨by omega, by show (g : Int) < (imgs.length : Int); omega, rfl⟩ ?_
  refine ask_intro ⟨by omega, by show (g : Int) < (x.own.length : Int); omega, rfl⟩ ?_
  refine chk_intro (by kernel_rfl) ?_
  by_cases hlen : (x.own.getD g []).length * 8 < (imgs.getD g []).length
  · rw [if_pos (tooLong_hit hg2 hlen)] at hr
    have hr : r = 8 := hr
    subst hr
    refine bsplit_of_true (decide_eq_true (show ((imgs.getD g []).length : Int) > IntKind.i64.wrap (((x.own.getD g []).length : Int) * 8) by rw [hw8]; omega)) ?_
    exact ⟨⟨rfl, trivial⟩, rfl⟩
  have hlong2 : tooLong x.own imgs (g + 1) = false := by rw [tooLong_succ, hlong, decide_eq_false hlen]; rfl
  refine bsplit_of_false (decide_eq_false (show ¬ ((imgs.getD g []).length : Int) > IntKind.i64.wrap (((x.own.getD g []).length : Int) * 8) by rw [hw8]; omega)) ?_
  exact ⟨⟨g + 1, by omega, hlong2⟩, le_of [] rfl rfl rfl rfl trivial (tellFr_x rfl ⟨DLe.refl _, DLe.refl _, DLe.refl _, DLe.refl _, trivial⟩ (tellFr_d rfl (DLe.refl _) (tellFr_v rfl hwr trivial))), by show x.own.length - (g + 1) < x.own.length - g; omega⟩
theorem c_spec_l7Load (x : PolM) (hs : x.small) (imgs : List (List Int)) (hI2 : ∀ i, i < imgs.length → (imgs.getD i []).length ≤ 1048576) (hrow : ∀ i, i < x.own.length → (x.own.getD i []).length ≤ 5 ∧ ∀ p ∈ x.own.getD i [], 0 ≤ p ∧ p ≤ 23) (h2 : imgs.length = x.own.length) (hfew : x.own.length ≤ 3) (hl : tooLong x.own imgs x.own.length = false) :
    FnOK Try.prog 78 [polP x, .d (owns imgs)] (.r (.one (oInts (allM x.own imgs x.own.length)))) := by
  refine fn_of lv78 Try.func78 rfl rfl (by kernel_rfl) rfl ?_
  refine ask_intro ⟨rfl, by decide, by decide, by decide⟩ ?_
  refine ⟨{ g : Nat // g ≤ x.own.length }, fun g => ⟨frL [(0, polP x), (1, .d (owns imgs)), (5, .row 66), (6, di g.1)], hpL [(66, .row 2 1 192 (intsF (allM x.own imgs g.1)))], 97, 0⟩, fun g => x.own.length - g.1, ⟨0, by omega⟩,
    le_of [(66, 4096)] rfl rfl rfl rfl (tellHp_row rfl rfl rfl (fun j hj => ?_) tellHp_nil) (tellFr_x rfl ⟨DLe.refl _, DLe.refl _, DLe.refl _, DLe.refl _, trivial⟩ (tellFr_d rfl (DLe.refl _) (tellFr_row rfl rfl (tellFr_v rfl rfl trivial)))), ?_⟩
  · have hj : j < 192 := hj
    show [D.v (.int .i64 0)] = intsF (List.replicate 192 0) j
    have e : (List.replicate 192 (0 : Int)).getD j 0 = 0 := by simp only [List.getD, List.getElem?_replicate, if_pos hj, Option.getD_some]
    simp only [intsF, e]
  rintro ⟨g, hg⟩
  by_cases hg2 : g < x.own.length
  rotate_left
  · obtain rfl : g = x.own.length := by omega
    refine bsplit_of_false (decide_eq_false (show ¬ (x.own.length : Int) < (imgs.length : Int) by omega)) ?_
    exact ⟨⟨⟨rfl, rfl, (allM_len _ _ _).symm, fun j hj => ⟨rfl, rfl⟩⟩, trivial⟩, rfl⟩
  obtain ⟨hr5, hrp⟩ := hrow g hg2
  have hwr := congrArg (Value.int .i64) (wrap1 hg2 (by omega))
  have hlen := tooLong_at hl hg2
  refine bsplit_of_true (decide_eq_true (show (g : Int) < (imgs.length : Int) by omega)) ?_
  refine ⟨{ i : Nat // i ≤ (imgs.getD g []).length }, fun i => ⟨frL [(0, polP x), (1, .d (owns imgs)), (5, .row 66), (6, di g), (7, di i.1)], hpL [(66, .row 2 1 192 (intsF (imgM (x.own.getD g []) (imgs.getD g []) (allM x.own imgs g) i.1)))], 97, 0⟩, fun i => (imgs.getD g []).length - i.1, ⟨0, by omega⟩,
    le_of [(66, 66)] rfl rfl rfl rfl (tellHp_row rfl rfl rfl (fun j hj => rfl) tellHp_nil) (tellFr_x rfl ⟨DLe.refl _, DLe.refl _, DLe.refl _, DLe.refl _, trivial⟩ (tellFr_d rfl (DLe.refl _) (tellFr_row rfl rfl (tellFr_v rfl rfl (tellFr_v rfl rfl trivial))))), ?_⟩
  rintro ⟨i, hi⟩
  by_cases hi2 : i < (imgs.getD g []).length
  rotate_left
  · obtain rfl : i = (imgs.getD g []).length := by omega
    refine ask_intro ⟨by omega, by show (g : Int) < (imgs.length : Int); omega, rfl⟩ ?_
    refine bsplit_of_false (decide_eq_false (show ¬ ((imgs.getD g []).length : Int) < ((imgs.getD g []).length : Int) by omega)) ?_
    exact ⟨⟨g + 1, by omega⟩, le_of [(66, 66)] rfl rfl rfl rfl (tellHp_row rfl rfl rfl (fun j hj => rfl) tellHp_nil) (tellFr_x rfl ⟨DLe.refl _, DLe.refl _, DLe.refl _, DLe.refl _, trivial⟩ (tellFr_d rfl (DLe.refl _) (tellFr_row rfl rfl (tellFr_v rfl hwr trivial)))), by show x.own.length - (g + 1) < x.own.length - g; omega⟩
  obtain ⟨⟨a1, a2⟩, a3, a4⟩ := img_place (own := x.own.getD g []) (i := i) (by omega) hr5 hrp
  have hwi := congrArg (Value.int .i64) (wrap1 hi2 (by have := hI2 g (by omega); omega))
  have hml : (imgM (x.own.getD g []) (imgs.getD g []) (allM x.own imgs g) i).length = 192 := by rw [imgM_len, allM_len]
  have hst := set_intsF (imgM (x.own.getD g []) (imgs.getD g []) (allM x.own imgs g) i) (plI (x.own.getD g []) i) (wrapW ((imgs.getD g []).getD i 0)) (by omega)
  have hsu := imgM_succ (x.own.getD g []) (imgs.getD g []) (allM x.own imgs g) i
  have a5 : (IntKind.i64.wrap (IntKind.i64.wrap ((x.own.getD g []).getD (IntKind.i64.wrap (Int.tdiv (i : Int) 8)).toNat 0 * 8) + Int.tmod (i : Int) 8)).toNat = plI (x.own.getD g []) i := by rw [a3]; rfl
  refine ask_intro ⟨by omega, by show (g : Int) < (imgs.length : Int); omega, rfl⟩ ?_
  refine bsplit_of_true (decide_eq_true (show (i : Int) < ((imgs.getD g []).length : Int) by omega)) ?_
  refine ask_intro ⟨by omega, by show (g : Int) < (x.own.length : Int); omega, rfl⟩ ?_
  refine ask_intro (by decide) ?_
  refine ask_intro ⟨a1, a2, rfl⟩ ?_
  refine ask_intro (by decide) ?_
  refine ask_intro ⟨by omega, by show (g : Int) < (imgs.length : Int); omega, rfl⟩ ?_
  refine ask_intro ⟨by omega, by show (i : Int) < ((imgs.getD g []).length : Int); omega, rfl⟩ ?_
  refine .inl ⟨_, _, rfl, c_spec_WrapWord ((imgs.getD g []).getD i 0), rfl, ?_⟩
  refine ask_intro ⟨by show 0 ≤ IntKind.i64.wrap (IntKind.i64.wrap ((x.own.getD g []).getD (IntKind.i64.wrap (Int.tdiv (i : Int) 8)).toNat 0 * 8) + Int.tmod (i : Int) 8); omega, by show IntKind.i64.wrap (IntKind.i64.wrap ((x.own.getD g []).getD (IntKind.i64.wrap (Int.tdiv (i : Int) 8)).toNat 0 * 8) + Int.tmod (i : Int) 8) < ((192 : Nat) : Int); omega⟩ ?_
  refine ask_intro (by show (IntKind.i64.wrap (IntKind.i64.wrap ((x.own.getD g []).getD (IntKind.i64.wrap (Int.tdiv (i : Int) 8)).toNat 0 * 8) + Int.tmod (i : Int) 8)).toNat < 192; omega) ?_
  refine ⟨⟨i + 1, by omega⟩, le_of [(66, 66)] rfl rfl rfl rfl (tellHp_row rfl rfl rfl (fun j hj => ?_) tellHp_nil) (tellFr_x rfl ⟨DLe.refl _, DLe.refl _, DLe.refl _, DLe.refl _, trivial⟩ (tellFr_d rfl (DLe.refl _) (tellFr_row rfl rfl (tellFr_v rfl rfl (tellFr_v rfl hwi trivial))))), by show (imgs.getD g []).length - (i + 1) < (imgs.getD g []).length - i; omega⟩
  show (if j = (IntKind.i64.wrap (IntKind.i64.wrap ((x.own.getD g []).getD (IntKind.i64.wrap (Int.tdiv (i : Int) 8)).toNat 0 * 8) + Int.tmod (i : Int) 8)).toNat then splice (intsF (imgM (x.own.getD g []) (imgs.getD g []) (allM x.own imgs g) i) j) 0 [.v (.int .i64 (wrapW ((imgs.getD g []).getD i 0)))] else intsF (imgM (x.own.getD g []) (imgs.getD g []) (allM x.own imgs g) i) j) = intsF (imgM (x.own.getD g []) (imgs.getD g []) (allM x.own imgs g) (i + 1)) j
  rw [a5, hst j, hsu]
  rfl
theorem imgCode_ok {own imgs : List (List Int)} (h : imgCode own imgs = 0) : imgs.length = own.length ∧ tooLong own imgs own.length = false := by
  unfold imgCode at h
  split at h
  · split at h
    · exact absurd h (by decide)
    · rename_i h1 h2; exact ⟨h1, by simpa using h2⟩
  · exact absurd h (by decide)
theorem c_spec_LoadImages (x : PolM) (hs : x.small) (imgs : List (List Int)) (hI : imgs.length ≤ 1048576) (hI2 : ∀ i, i < imgs.length → (imgs.getD i []).length ≤ 1048576) : FnOK Try.prog 13 [polLV x, .d (owns imgs)] (.r (irsR (loadImages x imgs))) := by
  have c1 := c_spec_l6Fault x hs
  have c2 := fun h : polFault x = 0 => c_spec_l7Images x hs imgs hI hI2 (fun i hi => (pol_row h i hi).1)
  have c3 := fun (h : polFault x = 0) (h2 : imgCode x.own imgs = 0) => c_spec_l7Load x hs imgs hI2 (pol_row h) (imgCode_ok h2).1 (pol_few h).2 (imgCode_ok h2).2
  obtain ⟨r, hr⟩ : ∃ r, r = loadImages x imgs := ⟨_, rfl⟩
  rw [← hr]
  unfold loadImages at hr
  generalize polFault x = e at *
  generalize imgCode x.own imgs = e2 at *
  refine fn_of lv13 Try.func13 rfl rfl (by kernel_rfl) rfl ?_
  refine .inl ⟨_, _, rfl, c1, rfl, ?_⟩
  refine bsplit_intro (fun h => ?_) (fun h => ?_)
  · rw [if_neg (by simpa using h)] at hr
    subst hr
    exact ⟨⟨rfl, ⟨rfl, rfl⟩, trivial⟩, rfl⟩
  have h : e = 0 := by simpa using h
  rw [if_pos h] at hr
  refine .inl ⟨_, _, rfl, c2 h, rfl, ?_⟩
  refine bsplit_intro (fun h2 => ?_) (fun h2 => ?_)
  · rw [if_neg (by simpa using h2)] at hr
    subst hr
    exact ⟨⟨rfl, ⟨rfl, rfl⟩, trivial⟩, rfl⟩
  have h2 : e2 = 0 := by simpa using h2
  rw [if_pos h2] at hr
  subst hr
  refine .inl ⟨_, _, rfl, c3 h h2, rfl, ?_⟩
  exact ⟨⟨rfl, ⟨rfl, rfl, rfl, fun j hj => ⟨rfl, rfl⟩⟩, trivial⟩, rfl⟩
theorem c_laws_eqMemoryResult (p q : Int × List Int) (hs : p.2.length ≤ 9223372036854775807) : FnOK Try.prog 17 [irsLV p, irsLV q] (rb (decide (p = q))) := by
  refine fn_of lv17 Try.func17 rfl rfl (by kernel_rfl) rfl ?_
  repeat' (first | refine bsplit_true ?_ | refine bsplit_false ?_ | refine .inl ⟨_, _, rfl, c_laws_eqInt64S p.2 q.2 hs, rfl, ?_⟩ | refine bsplit_intro (fun h => ?_) (fun h => ?_))
  all_goals refine ⟨⟨congrArg Value.bool ?_, trivial⟩, rfl⟩
  all_goals (obtain ⟨a1, a2⟩ := p; obtain ⟨b1, b2⟩ := q; simp_all)
theorem c_laws_markMemoryResult (p : Int × List Int) (k : Int) (hf : p.2.length ≤ 1099511627776) (hk : 0 ≤ k) (hk2 : k ≤ 1099511627776) : MutOK Try.prog 22 [.agg [di p.1, .row 0], di k] 1 [(0, rowE p.2)] (di (k + p.2.length)) 1 [(0, rowM p.2 k)] := by
  refine mut_fn_of lv22 Try.func22 rfl rfl (by kernel_rfl) rfl [] ?_
  refine .inr ⟨rfl, use_mut ⟨_, _, _, _, _, _, rfl, rfl, c_laws_markInt64S p.2 k hf hk hk2, rfl, ?_⟩⟩
  exact chk_intro (by kernel_rfl) ⟨tellV_v rfl rfl, tellHp_row rfl rfl rfl (fun j hj => rfl) tellHp_nil⟩
theorem c_laws_heldMemoryResult (p : Int × List Int) (k : Int) (hf : p.2.length ≤ 1099511627776) (hk : 0 ≤ k) (hk2 : k ≤ 1099511627776) : FnOK Try.prog 23 [.agg [di p.1, datM p.2 k], di k] (ri (k + p.2.length)) := by
  refine fn_of lv23 Try.func23 rfl rfl (by kernel_rfl) rfl ?_
  refine .inl ⟨_, _, rfl, c_laws_heldInt64S k p.2.length hf hk hk2, rfl, ?_⟩
  refine bsplit_of_false (decide_eq_false (show ¬ k + (p.2.length : Int) < 0 by omega)) ?_
  exact ⟨⟨rfl, trivial⟩, rfl⟩
abbrev okIntss (l : List (List Int)) : Prop := l.length * 24 ≤ reachBytes ∧ ∀ x ∈ l, okInts x
theorem okIntss_in {l : List (List Int)} (h : okIntss l) : ∀ i, i < l.length → (l.getD i []).length * 8 ≤ 140737488355328 := by
  intro i hi
  have := (h.2 (l.getD i []) (by rw [getD_at _ hi]; exact List.getElem_mem _)).1
  rw [reach_eq] at this
  omega
theorem szO_of {l : List (List Int)} {q : Int} (h : decide (szO l q < 0) = false) : ((l.length + sumN l : Nat) : Int) ≤ q := by
  have h := of_decide_eq_false h
  unfold szO at h
  split at h <;> omega
theorem szP_eq {x : PolM} {q : Int} (h : decide (szP x q < 0) = false) : szP x q = q - (x.size : Int) := by
  have h := of_decide_eq_false h
  unfold szP at h ⊢
  split at h
  · omega
  · rename_i h2; rw [if_neg h2]
theorem intss_len {l : List (List Int)} {q : Int} (h : ((l.length + sumN l : Nat) : Int) ≤ q) : ∀ i, i < l.length → ((l.getD i []).length : Int) ≤ q := by
  intro i hi
  have := sumN_get l i hi
  omega
theorem intss_b (l : List (List Int)) (k : Int) {q : Int} (hf : ((l.length + sumN l : Nat) : Int) ≤ q) (h1 : 0 ≤ k) (h2 : k ≤ 1073741824) : 0 ≤ k + (sumN l : Nat) ∧ k + (sumN l : Nat) ≤ k + q := by omega
end Go.Proofs.Ytojaakpnpdnbhaa.L

/- Caches: what the law functions compute on them: contracts. -/
set_option linter.unusedVariables false
set_option linter.unusedSimpArgs false
set_option maxRecDepth 100000
namespace Go.Proofs.Ytojaakpnpdnbhaa.L
open Go.RowKit
structure HitM where
  tag : Int
  page : Int
  to : Int
  kinds : Int
  deriving DecidableEq
abbrev hitD (p : HitM) : List D := [dI p.tag, dI p.page, dI p.to, dI p.kinds]
abbrev hitLV (p : HitM) : LV := .agg [di p.tag, di p.page, di p.to, di p.kinds]
abbrev hitsF (l : List HitM) (i : Nat) : List D := hitD (l.getD i ⟨0, 0, 0, 0⟩)
abbrev hits (l : List HitM) : D := .l l.length (hitsF l)
abbrev oHits (l : List HitM) : RC := .own 156 4 l.length (hitsF l)
theorem c_laws_toHit (p : HitM) : FnOK Try.prog 137 [hitLV p] (.r (.agg [.v (.int .i64 p.tag), .v (.int .i64 p.page), .v (.int .i64 p.to), .v (.int .i64 p.kinds)])) := by
  refine fn_of lv137 Try.func137 rfl rfl (by kernel_rfl) rfl ?_
  exact ⟨⟨rfl, rfl, rfl, rfl, trivial⟩, rfl⟩
theorem c_laws_toHitS (l : List HitM) (hl : l.length * 32 ≤ 140737488355328) : FnOK Try.prog 63 [.d (hits l)] (.r (.one (oHits l))) := by
  refine fn_of lv63 Try.func63 rfl rfl (by kernel_rfl) rfl ?_
  refine ask_intro ⟨rfl, by omega, by show (l.length : Int) * 32 ≤ 140737488355328; omega, by omega⟩ ?_
  refine ⟨{ i : Nat // i ≤ l.length }, fun i => ⟨frL [(0, .d (hits l)), (3, .row 96), (4, di i.1)], hpL [(96, .row 156 4 l.length fun j => if j < i.1 then hitsF l j else hitD ⟨0, 0, 0, 0⟩)], 97, 0⟩, fun i => l.length - i.1, ⟨0, by omega⟩,
    le_of [(96, 4160)] rfl rfl rfl rfl (tellHp_row rfl rfl rfl (fun i hi => rfl) tellHp_nil) (tellFr_d rfl (DLe.refl _) (tellFr_row rfl rfl (tellFr_v rfl rfl trivial))), ?_⟩
  rintro ⟨i, hi⟩
  refine bsplit_intro (fun h => ?_) (fun h => ?_)
  · have h : i < l.length := by simp at h; exact h
    refine ask_intro ⟨by omega, by simp; omega, rfl⟩ ?_
    refine .inl ⟨_, _, rfl, c_laws_toHit (l.getD i ⟨0, 0, 0, 0⟩), rfl, ?_⟩
    refine ask_intro ⟨by omega, by simp; omega⟩ ?_
    refine ask_intro (by show i < l.length; exact h) ?_
    refine ⟨⟨i + 1, by omega⟩, le_of [(96, 96)] rfl rfl rfl rfl (tellHp_row rfl rfl rfl (fun j hj => ?_) tellHp_nil) (tellFr_d rfl (DLe.refl _) (tellFr_row rfl rfl (tellFr_v rfl (congrArg (Value.int .i64) (?_ : IntKind.i64.wrap ((i : Int) + 1) = ((i + 1 : Nat) : Int))) trivial))), ?_⟩
    · show (if j = i then splice (if j < i then hitsF l j else hitD ⟨0, 0, 0, 0⟩) 0 (hitD (l.getD i ⟨0, 0, 0, 0⟩)) else if j < i then hitsF l j else hitD ⟨0, 0, 0, 0⟩) = if j < i + 1 then hitsF l j else hitD ⟨0, 0, 0, 0⟩
      by_cases h1 : j = i
      · subst h1
        rw [if_pos rfl, if_neg (by omega), if_pos (by omega)]
        rfl
      · rw [if_neg h1]
        by_cases h2 : j < i
        · rw [if_pos h2, if_pos (by omega)]
        · rw [if_neg h2, if_neg (by omega)]
    · exact wrap_i64 (i + 1) (by omega) (by omega)
    · show l.length - (i + 1) < l.length - i
      omega
  · simp at h
    refine ⟨⟨⟨rfl, rfl, rfl, fun j hj => ⟨?_, rfl⟩⟩, trivial⟩, rfl⟩
    show (if j < i then hitsF l j else _) = _
    rw [if_pos (by omega)]
theorem c_laws_szHitS (l : List HitM) (q : Int) (hq : -9223372036854775808 ≤ q - l.length) (hq2 : q - l.length < 9223372036854775808) : FnOK Try.prog 61 [.d (hits l), di q] (ri (if q - l.length < 0 then -1 else q - l.length)) := by
  refine fn_of lv61 Try.func61 rfl rfl (by kernel_rfl) rfl ?_
  refine bsplit_intro (fun h => ?_) (fun h => ?_)
  · refine ⟨⟨congrArg (Value.int .i64) (?_ : (-1 : Int) = _), trivial⟩, rfl⟩
    rw [wrap_i64 _ hq hq2] at h
    simp only [decide_eq_true_eq] at h
    rw [if_pos h]
  · refine ⟨⟨congrArg (Value.int .i64) (?_ : IntKind.i64.wrap (q - l.length) = _), trivial⟩, rfl⟩
    rw [wrap_i64 _ hq hq2] at h ⊢
    simp only [decide_eq_false_iff_not] at h
    rw [if_neg h]
theorem c_laws_eqHit (p q : HitM) : FnOK Try.prog 139 [hitLV p, hitLV q] (rb (decide (p = q))) := by
  refine fn_of lv139 Try.func139 rfl rfl (by kernel_rfl) rfl ?_
  repeat' (refine bsplit_intro (fun h => ?_) (fun h => ?_))
  all_goals refine ⟨⟨congrArg Value.bool ?_, trivial⟩, rfl⟩
  all_goals (obtain ⟨a0, a1, a2, a3⟩ := p; obtain ⟨b0, b1, b2, b3⟩ := q; simp_all)
theorem c_laws_eqHitS (l m : List HitM) (hl : l.length ≤ 9223372036854775807) : FnOK Try.prog 66 [.d (hits l), .d (hits m)] (rb (decide (l = m))) := by
  refine fn_of lv66 Try.func66 rfl rfl (by kernel_rfl) rfl ?_
  refine bsplit_intro (fun h => ?_) (fun h => ?_)
  · refine ⟨⟨congrArg Value.bool (?_ : false = _), trivial⟩, rfl⟩
    simp at h
    symm
    rw [decide_eq_false_iff_not]
    rintro rfl
    exact h rfl
  have hlen : l.length = m.length := by simp at h; omega
  refine ⟨{ i : Nat // i ≤ l.length ∧ decide (l.drop i = m.drop i) = decide (l = m) }, fun i => ⟨frL [(0, .d (hits l)), (1, .d (hits m)), (5, di i.1)], hpL [], 0, 0⟩, fun i => l.length - i.1, ⟨0, by simp⟩,
    le_of [] rfl rfl rfl rfl trivial (tellFr_d rfl (DLe.refl _) (tellFr_d rfl (DLe.refl _) (tellFr_v rfl rfl trivial))), ?_⟩
  rintro ⟨i, hi, hall⟩
  refine bsplit_intro (fun h => ?_) (fun h => ?_)
  · have h : i < l.length := by simp at h; exact h
    rw [drop_consG ⟨0, 0, 0, 0⟩ l i h, drop_consG ⟨0, 0, 0, 0⟩ m i (by omega)] at hall
    refine ask_intro ⟨by omega, by simp; omega, rfl⟩ ?_
    refine ask_intro ⟨by omega, by simp; omega, rfl⟩ ?_
    refine .inl ⟨_, _, rfl, c_laws_eqHit (l.getD i ⟨0, 0, 0, 0⟩) (m.getD i ⟨0, 0, 0, 0⟩), rfl, ?_⟩
    refine chk_intro (by kernel_rfl) ?_
    refine bsplit_intro (fun h2 => ?_) (fun h2 => ?_)
    · refine ⟨⟨congrArg Value.bool (?_ : false = _), trivial⟩, rfl⟩
      have h2 : ¬ l.getD i ⟨0, 0, 0, 0⟩ = m.getD i ⟨0, 0, 0, 0⟩ := by simpa only [Bool.not_eq_true', decide_eq_false_iff_not] using h2
      rw [← hall]
      symm
      rw [decide_eq_false_iff_not]
      intro e
      exact h2 (List.cons.inj e).1
    · have h2 : l.getD i ⟨0, 0, 0, 0⟩ = m.getD i ⟨0, 0, 0, 0⟩ := by simpa only [Bool.not_eq_false', decide_eq_true_eq] using h2
      rw [h2] at hall
      refine ⟨⟨i + 1, by omega, by rw [← hall]; simp⟩, le_of [] rfl rfl rfl rfl trivial (tellFr_d rfl (DLe.refl _) (tellFr_d rfl (DLe.refl _) (tellFr_v rfl (congrArg (Value.int .i64) (?_ : IntKind.i64.wrap ((i : Int) + 1) = ((i + 1 : Nat) : Int))) trivial))), by show l.length - (i + 1) < l.length - i; omega⟩
      exact wrap_i64 (i + 1) (by omega) (by omega)
  · refine ⟨⟨congrArg Value.bool (?_ : true = _), trivial⟩, rfl⟩
    simp at h
    rw [← hall, List.drop_eq_nil_of_le h, List.drop_eq_nil_of_le (by omega)]; simp
abbrev rowHit (l : List HitM) : Ent := .row 156 4 l.length (hitsF l)
abbrev hitMk (k : Int) (j : Nat) : List D := [.v (.int .i64 (k + 4 * (j : Int))), .v (.int .i64 (k + 4 * (j : Int) + 1)), .v (.int .i64 (k + 4 * (j : Int) + 2)), .v (.int .i64 (k + 4 * (j : Int) + 3))]
set_option maxHeartbeats 1600000 in
theorem c_laws_markHitS (l : List HitM) (k : Int) (hl : l.length ≤ 109951162777) (hk : 0 ≤ k) (hk2 : k ≤ 1099511627776) :
    MutOK Try.prog 68 [.row 0, di k] 1 [(0, rowHit l)] (di (k + 4 * l.length)) 1 [(0, .row 156 4 l.length (hitMk k))] := by
  refine mut_fn_of lv68 Try.func68 rfl rfl (by kernel_rfl) rfl [] ?_
  refine ⟨{ i : Nat // i ≤ l.length }, fun i => ⟨frL [(0, .row 0), (1, di (k + 4 * (i.1 : Int))), (5, di i.1)], hpL [(0, .row 156 4 l.length fun j => if j < i.1 then hitMk k j else hitsF l j)], 1, 1⟩, fun i => l.length - i.1, ⟨0, by omega⟩,
    le_of [] rfl rfl rfl rfl (tellHp_row rfl rfl rfl (fun i hi => rfl) tellHp_nil) (tellFr_row rfl rfl (tellFr_v rfl (congrArg (Value.int .i64) (?_ : k = k + 4 * ((0 : Nat) : Int))) (tellFr_v rfl rfl trivial))), ?_⟩
  · omega
  rintro ⟨i, hi⟩
  refine bsplit_intro (fun h => ?_) (fun h => ?_)
  · have h : i < l.length := by simp at h; exact h
    have w1 : IntKind.i64.wrap (k + 4 * (i : Int) + 1) = k + 4 * (i : Int) + 1 := (wrap_i64 _ (by omega) (by omega)).trans (by omega)
    have w2 : IntKind.i64.wrap (k + 4 * (i : Int) + 1 + 1) = k + 4 * (i : Int) + 2 := (wrap_i64 _ (by omega) (by omega)).trans (by omega)
    have w3 : IntKind.i64.wrap (k + 4 * (i : Int) + 2 + 1) = k + 4 * (i : Int) + 3 := (wrap_i64 _ (by omega) (by omega)).trans (by omega)
    refine ask_intro ⟨by omega, by show (i : Int) < (l.length : Int); omega⟩ ?_
    refine ask_intro (by show i < l.length; exact h) ?_
    refine ask_intro ⟨by omega, by show (i : Int) < (l.length : Int); omega⟩ ?_
    refine ask_intro (by show i < l.length; exact h) ?_
    refine ask_intro ⟨by omega, by show (i : Int) < (l.length : Int); omega⟩ ?_
    refine ask_intro (by show i < l.length; exact h) ?_
    refine ask_intro ⟨by omega, by show (i : Int) < (l.length : Int); omega⟩ ?_
    refine ask_intro (by show i < l.length; exact h) ?_
    refine ⟨⟨i + 1, by omega⟩, le_of [] rfl rfl rfl rfl (tellHp_row rfl rfl rfl (fun j hj => ?_) tellHp_nil) (tellFr_row rfl rfl (tellFr_v rfl (congrArg (Value.int .i64) (?_ : IntKind.i64.wrap (IntKind.i64.wrap (IntKind.i64.wrap (IntKind.i64.wrap (k + 4 * (i : Int) + 1) + 1) + 1) + 1) = k + 4 * ((i + 1 : Nat) : Int))) (tellFr_v rfl (congrArg (Value.int .i64) (?_ : IntKind.i64.wrap ((i : Int) + 1) = ((i + 1 : Nat) : Int))) trivial))), by show l.length - (i + 1) < l.length - i; omega⟩
    · show (if j = i then splice (if j = i then splice (if j = i then splice (if j = i then splice (if j < i then hitMk k j else hitsF l j) 0 [D.v (.int .i64 (k + 4 * (i : Int)))] else (if j < i then hitMk k j else hitsF l j)) 1 [D.v (.int .i64 (IntKind.i64.wrap (k + 4 * (i : Int) + 1)))] else (if j = i then splice (if j < i then hitMk k j else hitsF l j) 0 [D.v (.int .i64 (k + 4 * (i : Int)))] else (if j < i then hitMk k j else hitsF l j))) 2 [D.v (.int .i64 (IntKind.i64.wrap (IntKind.i64.wrap (k + 4 * (i : Int) + 1) + 1)))] else (if j = i then splice (if j = i then splice (if j < i then hitMk k j else hitsF l j) 0 [D.v (.int .i64 (k + 4 * (i : Int)))] else (if j < i then hitMk k j else hitsF l j)) 1 [D.v (.int .i64 (IntKind.i64.wrap (k + 4 * (i : Int) + 1)))] else (if j = i then splice (if j < i then hitMk k j else hitsF l j) 0 [D.v (.int .i64 (k + 4 * (i : Int)))] else (if j < i then hitMk k j else hitsF l j)))) 3 [D.v (.int .i64 (IntKind.i64.wrap (IntKind.i64.wrap (IntKind.i64.wrap (k + 4 * (i : Int) + 1) + 1) + 1)))] else (if j = i then splice (if j = i then splice (if j = i then splice (if j < i then hitMk k j else hitsF l j) 0 [D.v (.int .i64 (k + 4 * (i : Int)))] else (if j < i then hitMk k j else hitsF l j)) 1 [D.v (.int .i64 (IntKind.i64.wrap (k + 4 * (i : Int) + 1)))] else (if j = i then splice (if j < i then hitMk k j else hitsF l j) 0 [D.v (.int .i64 (k + 4 * (i : Int)))] else (if j < i then hitMk k j else hitsF l j))) 2 [D.v (.int .i64 (IntKind.i64.wrap (IntKind.i64.wrap (k + 4 * (i : Int) + 1) + 1)))] else (if j = i then splice (if j = i then splice (if j < i then hitMk k j else hitsF l j) 0 [D.v (.int .i64 (k + 4 * (i : Int)))] else (if j < i then hitMk k j else hitsF l j)) 1 [D.v (.int .i64 (IntKind.i64.wrap (k + 4 * (i : Int) + 1)))] else (if j = i then splice (if j < i then hitMk k j else hitsF l j) 0 [D.v (.int .i64 (k + 4 * (i : Int)))] else (if j < i then hitMk k j else hitsF l j))))) = if j < i + 1 then hitMk k j else hitsF l j
      by_cases h1 : j = i
      · subst h1
        rw [if_pos (show j < j + 1 by omega)]
        simp only [eq_self, if_true, Nat.lt_irrefl, if_false, w1, w2, w3]
        rfl
      · simp only [h1, if_false]
        by_cases h2 : j < i
        · rw [if_pos h2, if_pos (by omega)]
        · rw [if_neg h2, if_neg (by omega)]
    · simp only [w1, w2, w3]
      rw [wrap_i64 _ (by omega) (by omega)]; omega
    · exact wrap_i64 (i + 1) (by omega) (by omega)
  · simp at h
    have e : i = l.length := by omega
    subst e
    refine chk_intro (by kernel_rfl) ⟨tellV_v rfl rfl, tellHp_row rfl rfl rfl (fun j hj => ?_) tellHp_nil⟩
    show (if j < l.length then hitMk k j else hitsF l j) = hitMk k j
    rw [if_pos hj]
abbrev hitsM (l : List HitM) (k : Int) : D := .l l.length (hitMk k)
abbrev rowHM (l : List HitM) (k : Int) : Ent := .row 156 4 l.length (hitMk k)
theorem c_laws_heldHitS (l : List HitM) (k : Int) (hl : l.length ≤ 109951162777) (hk : 0 ≤ k) (hk2 : k ≤ 1099511627776) : FnOK Try.prog 141 [.d (hitsM l k), di k] (ri (k + 4 * l.length)) := by
  refine fn_of lv141 Try.func141 rfl rfl (by kernel_rfl) rfl ?_
  refine ⟨{ i : Nat // i ≤ l.length }, fun i => ⟨frL [(0, .d (hitsM l k)), (1, di (k + 4 * (i.1 : Int))), (5, di i.1)], hpL [], 0, 0⟩, fun i => l.length - i.1, ⟨0, by omega⟩,
    le_of [] rfl rfl rfl rfl trivial (tellFr_d rfl (DLe.refl _) (tellFr_v rfl (congrArg (Value.int .i64) (show k = k + 4 * ((0 : Nat) : Int) by omega)) (tellFr_v rfl rfl trivial))), ?_⟩
  rintro ⟨i, hi⟩
  refine bsplit_intro (fun h => ?_) (fun h => ?_)
  · have h : i < l.length := by simp at h; exact h
    have w1 : IntKind.i64.wrap (k + 4 * (i : Int) + 1) = k + 4 * (i : Int) + 1 := (wrap_i64 _ (by omega) (by omega)).trans (by omega)
    have w2 : IntKind.i64.wrap (k + 4 * (i : Int) + 1 + 1) = k + 4 * (i : Int) + 2 := (wrap_i64 _ (by omega) (by omega)).trans (by omega)
    have w3 : IntKind.i64.wrap (k + 4 * (i : Int) + 2 + 1) = k + 4 * (i : Int) + 3 := (wrap_i64 _ (by omega) (by omega)).trans (by omega)
    have w4 : IntKind.i64.wrap (IntKind.i64.wrap (IntKind.i64.wrap (IntKind.i64.wrap (k + 4 * (i : Int) + 1) + 1) + 1) + 1) = k + 4 * ((i + 1 : Nat) : Int) := by rw [w1, w2, w3, wrap_i64 _ (by omega) (by omega)]; omega
    refine ask_intro ⟨by omega, by show (i : Int) < (l.length : Int); omega, rfl⟩ ?_
    refine bsplit_of_false (show (k + 4 * (i : Int) != k + 4 * (i : Int)) = false by simp) ?_
    refine ask_intro ⟨by omega, by show (i : Int) < (l.length : Int); omega, rfl⟩ ?_
    refine bsplit_of_false (show (k + 4 * (i : Int) + 1 != IntKind.i64.wrap (k + 4 * (i : Int) + 1)) = false by rw [w1]; simp) ?_
    refine ask_intro ⟨by omega, by show (i : Int) < (l.length : Int); omega, rfl⟩ ?_
    refine bsplit_of_false (show (k + 4 * (i : Int) + 2 != IntKind.i64.wrap (IntKind.i64.wrap (k + 4 * (i : Int) + 1) + 1)) = false by rw [w1, w2]; simp) ?_
    refine ask_intro ⟨by omega, by show (i : Int) < (l.length : Int); omega, rfl⟩ ?_
    refine bsplit_of_false (show (k + 4 * (i : Int) + 3 != IntKind.i64.wrap (IntKind.i64.wrap (IntKind.i64.wrap (k + 4 * (i : Int) + 1) + 1) + 1)) = false by rw [w1, w2, w3]; simp) ?_
    exact ⟨⟨i + 1, by omega⟩, le_of [] rfl rfl rfl rfl trivial (tellFr_d rfl (DLe.refl _) (tellFr_v rfl (congrArg (Value.int .i64) w4) (tellFr_v rfl (congrArg (Value.int .i64) (wrap_i64 (i + 1) (by omega) (by omega) : IntKind.i64.wrap ((i : Int) + 1) = ((i + 1 : Nat) : Int))) trivial))), by show l.length - (i + 1) < l.length - i; omega⟩
  · simp at h
    have e : i = l.length := by omega
    subst e
    exact ⟨⟨rfl, trivial⟩, rfl⟩
end Go.Proofs.Ytojaakpnpdnbhaa.L

/- Caches: where a hit is, faults, copies: contracts. -/
set_option linter.unusedVariables false
set_option linter.unusedSimpArgs false
set_option maxRecDepth 100000
namespace Go.Proofs.Ytojaakpnpdnbhaa.L
open Go.RowKit
abbrev hit0 : HitM := ⟨0, 0, 0, 0⟩
abbrev atB (tag page : Int) (h : HitM) : Bool := h.tag == tag && h.page == page
theorem c_impl_hitAt_1 (x : HitM) (tag page : Int) : FnOK Try.prog 186 [hitLV x, .dptr [dI tag], .dptr [dI page]] (rb (atB tag page x)) := by
  generalize hv : atB tag page x = v
  unfold atB at hv
  refine fn_of lv186 Try.func186 rfl rfl (by kernel_rfl) rfl ?_
  repeat' (first | refine bsplit_true ?_ | refine bsplit_false ?_ | refine bsplit_intro (fun h => ?_) (fun h => ?_))
  all_goals refine ⟨⟨congrArg Value.bool ?_, trivial⟩, rfl⟩
  all_goals simp_all
theorem c_slices_IndexFunc_Hit (g : Nat) (cs : List LV) (p : HitM → Bool) (hcs : cs = cs) (a b : Int) (hg : ∀ x, FnOK Try.prog g [hitLV x, .dptr [dI a], .dptr [dI b]] (rb (p x))) (l : List HitM) (hl : l.length ≤ 4611686018427387904) : FnOK Try.prog 185 [.d (hits l), .fn g [.dptr [dI a], .dptr [dI b]]] (ri (idxG p l 0)) := by
  refine fn_of lv185 Try.func185 rfl rfl (by kernel_rfl) rfl ?_
  refine ⟨{ i : Nat // i ≤ l.length ∧ idxG p l i = idxG p l 0 }, fun i => ⟨frL [(0, .d (hits l)), (1, .fn g [.dptr [dI a], .dptr [dI b]]), (7, di l.length), (8, di i.1)], hpL [], 0, 0⟩, fun i => l.length - i.1, ⟨0, by omega, rfl⟩,
    le_of [] rfl rfl rfl rfl trivial (tellFr_d rfl (DLe.refl _) (tellFr_fn rfl ⟨⟨DLe.refl _, trivial⟩, ⟨DLe.refl _, trivial⟩, trivial⟩ (tellFr_v rfl rfl (tellFr_v rfl rfl trivial)))), ?_⟩
  rintro ⟨i, hi, hall⟩
  refine bsplit_intro (fun h => ?_) (fun h => ?_)
  · have h : i < l.length := by simp at h; exact h
    refine ask_intro ⟨by omega, by simp; omega, rfl⟩ ?_
    refine .inl ⟨_, _, rfl, hg (l.getD i hit0), rfl, ?_⟩
    refine bsplit_intro (fun h2 => ?_) (fun h2 => ?_)
    · exact ⟨⟨congrArg (Value.int .i64) ((idxG_hit hit0 h h2).symm.trans hall), trivial⟩, rfl⟩
    · exact ⟨⟨i + 1, by omega, (idxG_miss hit0 h h2).symm.trans hall⟩, le_of [] rfl rfl rfl rfl trivial (tellFr_d rfl (DLe.refl _) (tellFr_fn rfl ⟨⟨DLe.refl _, trivial⟩, ⟨DLe.refl _, trivial⟩, trivial⟩ (tellFr_v rfl rfl (tellFr_v rfl (congrArg (Value.int .i64) (wrap1 h hl)) trivial)))), by show l.length - (i + 1) < l.length - i; omega⟩
  · simp at h
    exact ⟨⟨congrArg (Value.int .i64) ((idxG_end h).symm.trans hall), trivial⟩, rfl⟩
def findH (c : List HitM) (tag page : Int) : Int := idxG (atB tag page) c 0
theorem c_impl_hitAt (c : List HitM) (tag page : Int) (hl : c.length ≤ 4611686018427387904) : FnOK Try.prog 125 [.d (hits c), di tag, di page] (ri (findH c tag page)) := by
  refine fn_of lv125 Try.func125 rfl rfl (by kernel_rfl) rfl ?_
  refine .inl ⟨_, _, rfl, c_slices_IndexFunc_Hit 186 [] (atB tag page) rfl tag page (fun x => c_impl_hitAt_1 x tag page) c hl, rfl, ?_⟩
  exact ⟨⟨rfl, trivial⟩, rfl⟩
theorem c_spec_l5Find (c : List HitM) (tag page : Int) (hl : c.length ≤ 4611686018427387904) : FnOK Try.prog 188 [.d (hits c), di tag, di page] (ri (findH c tag page)) := by
  unfold findH
  refine fn_of lv188 Try.func188 rfl rfl (by kernel_rfl) rfl ?_
  refine ⟨{ i : Nat // i ≤ c.length ∧ idxG (atB tag page) c i = idxG (atB tag page) c 0 }, fun i => ⟨frL [(0, .d (hits c)), (1, di tag), (2, di page), (7, di i.1)], hpL [], 0, 0⟩, fun i => c.length - i.1, ⟨0, by omega, rfl⟩,
    le_of [] rfl rfl rfl rfl trivial (tellFr_d rfl (DLe.refl _) (tellFr_v rfl rfl (tellFr_v rfl rfl (tellFr_v rfl rfl trivial)))), ?_⟩
  rintro ⟨i, hi, hall⟩
  by_cases h : i < c.length
  rotate_left
  · refine bsplit_of_false (decide_eq_false (show ¬ (i : Int) < (c.length : Int) by omega)) ?_
    exact ⟨⟨congrArg (Value.int .i64) ((idxG_end (by omega)).symm.trans hall), trivial⟩, rfl⟩
  have hwr := congrArg (Value.int .i64) (wrap1 h hl)
  have hit : atB tag page (c.getD i hit0) = true → (i : Int) = idxG (atB tag page) c 0 := fun h2 => (idxG_hit hit0 (p := atB tag page) h h2).symm.trans hall
  have miss : atB tag page (c.getD i hit0) = false → idxG (atB tag page) c (i + 1) = idxG (atB tag page) c 0 := fun h2 => (idxG_miss hit0 (p := atB tag page) h h2).symm.trans hall
  refine bsplit_of_true (decide_eq_true (show (i : Int) < (c.length : Int) by omega)) ?_
  refine ask_intro ⟨by omega, by show (i : Int) < (c.length : Int); omega, rfl⟩ ?_
  refine bsplit_intro (fun h1 => ?_) (fun h1 => ?_)
  · have h1 : ((c.getD i hit0).tag == tag) = true := h1
    repeat' (first | refine bsplit_true ?_ | refine bsplit_false ?_)
    refine ask_intro ⟨by omega, by show (i : Int) < (c.length : Int); omega, rfl⟩ ?_
    repeat' (first | refine bsplit_true ?_ | refine bsplit_false ?_)
    refine bsplit_intro (fun h2 => ?_) (fun h2 => ?_)
    · have h2 : ((c.getD i hit0).page == page) = true := h2
      exact ⟨⟨congrArg (Value.int .i64) (hit (by rw [atB, h1, h2]; rfl)), trivial⟩, rfl⟩
    · have h2 : ((c.getD i hit0).page == page) = false := h2
      exact ⟨⟨i + 1, by omega, miss (by rw [atB, h1, h2]; rfl)⟩, le_of [] rfl rfl rfl rfl trivial (tellFr_d rfl (DLe.refl _) (tellFr_v rfl rfl (tellFr_v rfl rfl (tellFr_v rfl hwr trivial)))), by show c.length - (i + 1) < c.length - i; omega⟩
  · have h1 : ((c.getD i hit0).tag == tag) = false := h1
    repeat' (first | refine bsplit_true ?_ | refine bsplit_false ?_)
    exact ⟨⟨i + 1, by omega, miss (by rw [atB, h1]; rfl)⟩, le_of [] rfl rfl rfl rfl trivial (tellFr_d rfl (DLe.refl _) (tellFr_v rfl rfl (tellFr_v rfl rfl (tellFr_v rfl hwr trivial)))), by show c.length - (i + 1) < c.length - i; omega⟩
def hitB (h : HitM) : Bool := inR h.tag 0 9 && (inR h.page 0 7 && (inR h.to 0 23 && inR h.kinds 1 7))
theorem c_impl_hitFault (h : HitM) : FnOK Try.prog 136 [hitLV h] (ri (bif hitB h then 0 else 3)) := by
  have c1 := c_impl_within h.tag 0 9
  have c2 := c_impl_within h.page 0 7
  have c3 := c_impl_within h.to 0 23
  have c4 := c_impl_within h.kinds 1 7
  generalize hv : (bif hitB h then (0 : Int) else 3) = v
  unfold hitB at hv
  refine fn_of lv136 Try.func136 rfl rfl (by kernel_rfl) rfl ?_
  refine .inl ⟨_, _, rfl, c1, rfl, ?_⟩
  repeat' (first | refine bsplit_true ?_ | refine bsplit_false ?_ | refine .inl ⟨_, _, rfl, c2, rfl, ?_⟩ | refine .inl ⟨_, _, rfl, c3, rfl, ?_⟩ | refine .inl ⟨_, _, rfl, c4, rfl, ?_⟩ | refine bsplit_intro (fun h => ?_) (fun h => ?_))
  all_goals refine ⟨⟨congrArg (Value.int .i64) ?_, trivial⟩, rfl⟩
  all_goals simp_all
theorem c_spec_l5Hit (h : HitM) : FnOK Try.prog 182 [hitLV h] (rb (hitB h)) := by
  have c1 := c_spec_l1In h.tag 0 9
  have c2 := c_spec_l1In h.page 0 7
  have c3 := c_spec_l1In h.to 0 23
  have c4 := c_spec_l1In h.kinds 1 7
  generalize hv : hitB h = v
  unfold hitB at hv
  refine fn_of lv182 Try.func182 rfl rfl (by kernel_rfl) rfl ?_
  refine .inl ⟨_, _, rfl, c1, rfl, ?_⟩
  repeat' (first | refine bsplit_true ?_ | refine bsplit_false ?_ | refine .inl ⟨_, _, rfl, c2, rfl, ?_⟩ | refine .inl ⟨_, _, rfl, c3, rfl, ?_⟩ | refine .inl ⟨_, _, rfl, c4, rfl, ?_⟩ | refine bsplit_intro (fun h => ?_) (fun h => ?_))
  all_goals refine ⟨⟨congrArg Value.bool ?_, trivial⟩, rfl⟩
  all_goals simp_all
def cacheGo : List HitM → List HitM → Int
  | _, [] => 0
  | ahead, h :: t => if hitB h = true then (if findH ahead h.tag h.page ≥ 0 then 6 else cacheGo (ahead ++ [h]) t) else 3
def cacheF (c : List HitM) : Int := if c.length > 12 then 2 else cacheGo [] c
theorem cache_step (c : List HitM) (i : Nat) (h : i < c.length) : cacheGo (c.take i) (c.drop i) = if hitB (c.getD i hit0) = true then (if findH (c.take i) (c.getD i hit0).tag (c.getD i hit0).page ≥ 0 then 6 else cacheGo (c.take (i + 1)) (c.drop (i + 1))) else 3 := by
  rw [take_snoc hit0 c i h, drop_consG hit0 c i h]; rfl
theorem cut_hits (c : List HitM) (i : Nat) (h : i ≤ c.length) : LVLe (.d (.l ((i : Int) - 0).toNat (cutF none 0 (hitsF c)))) (.d (hits (c.take i))) := LVLe.d (DLe.l (by simp; omega) (fun j hj => by
  have hj : j < i := by simpa using hj
  show hitD (c.getD j _) = hitD ((c.take i).getD j _)
  simp [List.getD, List.getElem?_take, hj]))
theorem LVLe.v (n : Int) : LVLe (di n) (di n) := LVLe.refl _
theorem c_impl_CacheFault (c : List HitM) (hl : c.length ≤ 4611686018427387904) : FnOK Try.prog 60 [.d (hits c)] (ri (cacheF c)) := by
  obtain ⟨v, hv⟩ : ∃ v, v = cacheF c := ⟨_, rfl⟩
  rw [← hv]
  unfold cacheF at hv
  refine fn_of lv60 Try.func60 rfl rfl (by kernel_rfl) rfl ?_
  refine bsplit_intro (fun h => ?_) (fun h => ?_)
  · have h : decide ((c.length : Int) > 12) = true := h
    rw [if_pos (by have := of_decide_eq_true h; omega)] at hv
    subst hv
    exact ⟨⟨rfl, trivial⟩, rfl⟩
  have h : decide ((c.length : Int) > 12) = false := h
  have h12 : ¬ c.length > 12 := by have := of_decide_eq_false h; omega
  rw [if_neg h12] at hv
  refine ⟨{ i : Nat // i ≤ c.length ∧ v = cacheGo (c.take i) (c.drop i) }, fun i => ⟨frL [(0, .d (hits c)), (8, .d (hits c)), (9, di c.length), (10, di i.1)], hpL [], 0, 0⟩, fun i => c.length - i.1, ⟨0, by omega, hv⟩,
    le_of [] rfl rfl rfl rfl trivial (tellFr_d rfl (DLe.refl _) (tellFr_d rfl (DLe.refl _) (tellFr_v rfl rfl (tellFr_v rfl rfl trivial)))), ?_⟩
  rintro ⟨i, hi, hall⟩
  by_cases hi2 : i < c.length
  rotate_left
  · rw [List.drop_eq_nil_of_le (by omega)] at hall
    have hall : v = 0 := hall
    subst hall
    refine bsplit_of_false (decide_eq_false (show ¬ (i : Int) < (c.length : Int) by omega)) ?_
    exact ⟨⟨rfl, trivial⟩, rfl⟩
  rw [cache_step c i hi2] at hall
  have hwr := congrArg (Value.int .i64) (wrap1 hi2 (by omega))
  have c1 := c_impl_hitFault (c.getD i hit0)
  have c2 := (c_impl_hitAt (c.take i) (c.getD i hit0).tag (c.getD i hit0).page (by simp; omega)).weak (xs := [.d (.l ((i : Int) - 0).toNat (cutF none 0 (hitsF c))), di (c.getD i hit0).tag, di (c.getD i hit0).page]) ⟨cut_hits c i (by omega), LVLe.v _, LVLe.v _, trivial⟩
  obtain ⟨f, hf⟩ : ∃ f, f = findH (c.take i) (c.getD i hit0).tag (c.getD i hit0).page := ⟨_, rfl⟩
  rw [← hf] at hall c2
  obtain ⟨b, hb⟩ : ∃ b, b = hitB (c.getD i hit0) := ⟨_, rfl⟩
  rw [← hb] at hall c1
  refine bsplit_of_true (decide_eq_true (show (i : Int) < (c.length : Int) by omega)) ?_
  refine ask_intro ⟨by omega, by show (i : Int) < (c.length : Int); omega, rfl⟩ ?_
  refine .inl ⟨_, _, rfl, c1, rfl, ?_⟩
  cases b with
  | false =>
    have hall : v = 3 := hall
    subst hall
    repeat' (first | refine bsplit_true ?_ | refine bsplit_false ?_)
    exact ⟨⟨rfl, trivial⟩, rfl⟩
  | true =>
    rw [if_pos rfl] at hall
    refine bsplit_false ?_
    refine ask_intro ⟨by omega, by omega, by show (i : Int) ≤ (c.length : Int); omega, .inl rfl⟩ ?_
    refine .inl ⟨_, _, rfl, c2, rfl, ?_⟩
    refine chk_intro (by kernel_rfl) ?_
    refine bsplit_intro (fun h2 => ?_) (fun h2 => ?_)
    · have h2 : decide (f ≥ 0) = true := h2
      rw [if_pos (of_decide_eq_true h2)] at hall
      subst hall
      exact ⟨⟨rfl, trivial⟩, rfl⟩
    · have h2 : decide (f ≥ 0) = false := h2
      rw [if_neg (of_decide_eq_false h2)] at hall
      exact ⟨⟨i + 1, by omega, hall⟩, le_of [] rfl rfl rfl rfl trivial (tellFr_d rfl (DLe.refl _) (tellFr_d rfl (DLe.refl _) (tellFr_v rfl rfl (tellFr_v rfl hwr trivial)))), by show c.length - (i + 1) < c.length - i; omega⟩
end Go.Proofs.Ytojaakpnpdnbhaa.L

/- Caches: copies, hits less and more: contracts. -/
set_option linter.unusedVariables false
set_option linter.unusedSimpArgs false
set_option maxRecDepth 100000
namespace Go.Proofs.Ytojaakpnpdnbhaa.L
open Go.RowKit
theorem c_spec_CacheFault (c : List HitM) (hl : c.length ≤ 4611686018427387904) : FnOK Try.prog 133 [.d (hits c)] (ri (cacheF c)) := by
  obtain ⟨v, hv⟩ : ∃ v, v = cacheF c := ⟨_, rfl⟩
  rw [← hv]
  unfold cacheF at hv
  refine fn_of lv133 Try.func133 rfl rfl (by kernel_rfl) rfl ?_
  refine bsplit_intro (fun h => ?_) (fun h => ?_)
  · have h : decide ((c.length : Int) > 12) = true := h
    rw [if_pos (by have := of_decide_eq_true h; omega)] at hv
    subst hv
    exact ⟨⟨rfl, trivial⟩, rfl⟩
  have h : decide ((c.length : Int) > 12) = false := h
  have h12 : ¬ c.length > 12 := by have := of_decide_eq_false h; omega
  rw [if_neg h12] at hv
  refine ⟨{ i : Nat // i ≤ c.length ∧ v = cacheGo (c.take i) (c.drop i) }, fun i => ⟨frL [(0, .d (hits c)), (3, di i.1)], hpL [], 0, 0⟩, fun i => c.length - i.1, ⟨0, by omega, hv⟩,
    le_of [] rfl rfl rfl rfl trivial (tellFr_d rfl (DLe.refl _) (tellFr_v rfl rfl trivial)), ?_⟩
  rintro ⟨i, hi, hall⟩
  by_cases hi2 : i < c.length
  rotate_left
  · rw [List.drop_eq_nil_of_le (by omega)] at hall
    have hall : v = 0 := hall
    subst hall
    refine bsplit_of_false (decide_eq_false (show ¬ (i : Int) < (c.length : Int) by omega)) ?_
    exact ⟨⟨rfl, trivial⟩, rfl⟩
  rw [cache_step c i hi2] at hall
  have hwr := congrArg (Value.int .i64) (wrap1 hi2 (by omega))
  have c1 := c_spec_l5Hit (c.getD i hit0)
  have c2 := (c_spec_l5Find (c.take i) (c.getD i hit0).tag (c.getD i hit0).page (by simp; omega)).weak (xs := [.d (.l ((i : Int) - 0).toNat (cutF none 0 (hitsF c))), di (c.getD i hit0).tag, di (c.getD i hit0).page]) ⟨cut_hits c i (by omega), LVLe.v _, LVLe.v _, trivial⟩
  obtain ⟨f, hf⟩ : ∃ f, f = findH (c.take i) (c.getD i hit0).tag (c.getD i hit0).page := ⟨_, rfl⟩
  rw [← hf] at hall c2
  obtain ⟨b, hb⟩ : ∃ b, b = hitB (c.getD i hit0) := ⟨_, rfl⟩
  rw [← hb] at hall c1
  refine bsplit_of_true (decide_eq_true (show (i : Int) < (c.length : Int) by omega)) ?_
  refine ask_intro ⟨by omega, by show (i : Int) < (c.length : Int); omega, rfl⟩ ?_
  refine .inl ⟨_, _, rfl, c1, rfl, ?_⟩
  cases b with
  | false =>
    have hall : v = 3 := hall
    subst hall
    repeat' (first | refine bsplit_true ?_ | refine bsplit_false ?_)
    exact ⟨⟨rfl, trivial⟩, rfl⟩
  | true =>
    rw [if_pos rfl] at hall
    refine bsplit_false ?_
    refine ask_intro ⟨by omega, by omega, by show (i : Int) ≤ (c.length : Int); omega, .inl rfl⟩ ?_
    refine ask_intro ⟨by omega, by show (i : Int) < (c.length : Int); omega, rfl⟩ ?_
    refine ask_intro ⟨by omega, by show (i : Int) < (c.length : Int); omega, rfl⟩ ?_
    refine .inl ⟨_, _, rfl, c2, rfl, ?_⟩
    refine chk_intro (by kernel_rfl) ?_
    refine bsplit_intro (fun h2 => ?_) (fun h2 => ?_)
    · have h2 : decide (f ≥ 0) = true := h2
      rw [if_pos (of_decide_eq_true h2)] at hall
      subst hall
      exact ⟨⟨rfl, trivial⟩, rfl⟩
    · have h2 : decide (f ≥ 0) = false := h2
      rw [if_neg (of_decide_eq_false h2)] at hall
      exact ⟨⟨i + 1, by omega, hall⟩, le_of [] rfl rfl rfl rfl trivial (tellFr_d rfl (DLe.refl _) (tellFr_v rfl hwr trivial)), by show c.length - (i + 1) < c.length - i; omega⟩
theorem c_slices_Clone_Hit (l : List HitM) (hl : l.length * 32 ≤ 140737488355328) : FnOK Try.prog 126 [.d (hits l)] (.r (.one (oHits l))) := by
  refine fn_of lv126 Try.func126 rfl rfl (by kernel_rfl) rfl ?_
  rintro r hr
  cases r with
  | true =>
    refine bsplit_true ?_
    have : l.length = 0 := by
      rcases Nat.eq_zero_or_pos l.length with h | h
      · exact h
      · exact absurd (hr h) (by simp)
    exact ⟨⟨⟨this, rfl⟩, trivial⟩, rfl⟩
  | false =>
    refine bsplit_false ?_
    refine ask_intro ⟨by show (0 + l.length) * 32 ≤ 140737488355328; omega, by omega, fun i hi => rfl⟩ ?_
    refine ⟨⟨⟨rfl, rfl, ?_, fun i hi => ⟨?_, rfl⟩⟩, trivial⟩, rfl⟩
    · exact Nat.zero_add _
    · rfl
theorem erase_get (l : List HitM) (i j : Nat) (hi : i < l.length) (hj : j < l.length - 1) : (l.eraseIdx i).getD j hit0 = if j < i then l.getD j hit0 else l.getD (j + 1) hit0 := by
  simp only [List.getD, List.getElem?_eraseIdx]
  split <;> rfl
set_option maxHeartbeats 1600000 in
theorem c_slices_Delete_Hit (l : List HitM) (i : Nat) (hi : i < l.length) (hl : l.length ≤ 1048576) :
    MutOK Try.prog 187 [.row 0, di i, di ((i : Int) + 1)] 1 [(0, .row 156 4 l.length (hitsF l))] (.row 1) 2 [(1, .row 156 4 (l.eraseIdx i).length (hitsF (l.eraseIdx i)))] := by
  have hel : (l.eraseIdx i).length = l.length - 1 := by rw [List.length_eraseIdx, if_pos hi]
  have heq : ((i : Int) == (i : Int) + 1) = false := by rw [beq_eq_false_iff_ne]; omega
  have e1 : (0 + (i : Int).toNat) - (0 + (0 : Int).toNat) = i := by simp
  have e2 : (0 + (l.length : Int).toNat) - (0 + ((i : Int) + 1).toNat) = l.length - (i + 1) := by omega
  have e3 : 0 + ((i : Int) + 1).toNat = i + 1 := by omega
  have hzz : i + (l.length - (i + 1)) = l.length - 1 := by omega
  rw [hel]
  refine mut_cut (k := 0) (sz := 4) (n := l.length) (f := fun j => if j < l.length - 1 then hitsF (l.eraseIdx i) j else [.v (.int .i64 0), .v (.int .i64 0), .v (.int .i64 0), .v (.int .i64 0)]) ?_ (by omega) (by omega) (fun j hj => by rw [if_pos hj])
  refine mut_fn_of lv187 Try.func187 rfl rfl (by kernel_rfl) rfl [] ?_
  refine ask_intro ⟨by omega, by omega, by show (i : Int) + 1 ≤ (l.length : Int); omega, by show (l.length : Int) ≤ ((l.length - 0 : Nat) : Int); omega⟩ ?_
  refine bsplit_of_false heq ?_
  refine ask_intro ⟨by omega, by omega, by show ((0 : Nat) : Int) + (i : Int) ≤ (l.length : Int); omega, .inr rfl⟩ ?_
  refine ask_intro ⟨by omega, by show (i : Int) + 1 ≤ ((l.length - 0 : Nat) : Int); omega, by show ((0 : Nat) : Int) + ((l.length - 0 : Nat) : Int) ≤ (l.length : Int); omega, .inr rfl⟩ ?_
  refine ask_intro ⟨by show 0 + (i : Int).toNat + ((0 + ((l.length - 0 : Nat) : Int).toNat) - (0 + ((i : Int) + 1).toNat)) ≤ l.length; omega, fun q hq => rfl⟩ ?_
  refine chk_intro (by kernel_rfl) ?_
  refine ask_intro trivial ?_
  refine ask_intro ⟨by omega, by show ((0 + (i : Int).toNat + ((0 + ((l.length - 0 : Nat) : Int).toNat) - (0 + ((i : Int) + 1).toNat)) - 0 : Nat) : Int) ≤ (l.length : Int); omega, by show ((0 : Nat) : Int) + (l.length : Int) ≤ (l.length : Int); omega, .inr rfl⟩ ?_
  refine ask_intro trivial ?_
  refine chk_intro (by kernel_rfl) ⟨tellV_sub rfl rfl ?_, tellHp_row rfl rfl rfl (fun j hj => ?_) tellHp_nil⟩
  · show 0 + (i : Int).toNat + ((0 + ((l.length - 0 : Nat) : Int).toNat) - (0 + ((i : Int) + 1).toNat)) = l.length - 1
    omega
  · have hj : j < l.length := hj
    show (if 0 + ((0 + (i : Int).toNat + ((0 + ((l.length - 0 : Nat) : Int).toNat) - (0 + ((i : Int) + 1).toNat)) - 0 : Nat) : Int).toNat ≤ j ∧ j < 0 + ((0 + (i : Int).toNat + ((0 + ((l.length - 0 : Nat) : Int).toNat) - (0 + ((i : Int) + 1).toNat)) - 0 : Nat) : Int).toNat + ((0 + (l.length : Int).toNat) - (0 + ((0 + (i : Int).toNat + ((0 + ((l.length - 0 : Nat) : Int).toNat) - (0 + ((i : Int) + 1).toNat)) - 0 : Nat) : Int).toNat)) then [.v (.int .i64 0), .v (.int .i64 0), .v (.int .i64 0), .v (.int .i64 0)] else (if 0 + (i : Int).toNat ≤ j ∧ j < 0 + (i : Int).toNat + ((0 + ((l.length - 0 : Nat) : Int).toNat) - (0 + ((i : Int) + 1).toNat)) then hitsF l (0 + ((i : Int) + 1).toNat + (j - (0 + (i : Int).toNat))) else hitsF l j)) = if j < l.length - 1 then hitsF (l.eraseIdx i) j else [.v (.int .i64 0), .v (.int .i64 0), .v (.int .i64 0), .v (.int .i64 0)]
    by_cases h1 : j < l.length - 1
    · rw [if_neg (by omega), if_pos h1]
      by_cases h2 : j < i
      · rw [if_neg (by omega)]
        simp only [hitsF, erase_get l i j hi h1, if_pos h2]
      · rw [if_pos (by omega)]
        have e5 : 0 + ((i : Int) + 1).toNat + (j - (0 + (i : Int).toNat)) = j + 1 := by omega
        rw [e5]
        simp only [hitsF, erase_get l i j hi h1, if_neg h2]
    · rw [if_neg h1, if_pos (by omega)]
end Go.Proofs.Ytojaakpnpdnbhaa.L

/- Caches: a hit put in: contracts. -/
set_option linter.unusedVariables false
set_option linter.unusedSimpArgs false
set_option maxRecDepth 100000
namespace Go.Proofs.Ytojaakpnpdnbhaa.L
open Go.RowKit
theorem upto_hit (S : List HitM) (x : HitM) (q : Nat) (hq : q < S.length + 1) : upto S.length (hitsF S) (fun i => ([hitD x] : List (List D)).getD i []) q = hitsF (S ++ [x]) q := by
  unfold upto
  by_cases h : q < S.length
  · rw [if_pos h]
    simp only [hitsF, List.getD, List.getElem?_append_left h]
  · rw [if_neg h]
    have e : q = S.length := by omega
    subst e
    simp [hitsF, List.getD]
theorem one_hit (x : HitM) (i : Nat) (hi : i < 1) : (([hitD x] : List (List D)).getD i []).length = 4 := by
  obtain rfl : i = 0 := by omega
  rfl
/-- a cache less the hit that has to go -/
def lessC (c : List HitM) (h : HitM) : List HitM := if findH c h.tag h.page ≥ 0 then c.eraseIdx (findH c h.tag h.page).toNat else if c.length ≥ 12 then c.eraseIdx 0 else c
def fillC (c : List HitM) (h : HitM) : List HitM := lessC c h ++ [h]
theorem idx_lt {α : Type} {p : α → Bool} {l : List α} (h : idxG p l 0 ≥ 0) : idxG p l 0 = ((idxG p l 0).toNat : Int) ∧ (idxG p l 0).toNat < l.length := by
  unfold idxG at *
  rw [List.drop_zero] at *
  cases ha : l.any p with
  | false => rw [ha] at h; simp at h
  | true =>
    simp only [cond_true]
    have := List.findIdx_lt_length.2 (List.any_eq_true.1 ha)
    omega
theorem find_lt {c : List HitM} {tag page : Int} (h : findH c tag page ≥ 0) : findH c tag page = ((findH c tag page).toNat : Int) ∧ (findH c tag page).toNat < c.length := idx_lt h
theorem lessC_len (c : List HitM) (h : HitM) : (lessC c h).length ≤ c.length := by
  unfold lessC
  split
  · rw [List.length_eraseIdx]; split <;> omega
  · split
    · rw [List.length_eraseIdx]; split <;> omega
    · omega
theorem c_impl_filled (c : List HitM) (h : HitM) (hl : c.length ≤ 12) : FnOK Try.prog 127 [.d (hits c), hitLV h] (.r (.one (oHits (fillC c h)))) := by
  have c1 := c_slices_Clone_Hit c (by omega)
  have c2 := c_impl_hitAt c h.tag h.page (by omega)
  have hlen := lessC_len c h
  have hf := find_lt (c := c) (tag := h.tag) (page := h.page)
  have c3 := fun hi => c_slices_Delete_Hit c (findH c h.tag h.page).toNat hi (by omega)
  have c4 := fun hi => c_slices_Delete_Hit c 0 hi (by omega)
  have hup := upto_hit (lessC c h) h
  obtain ⟨S, hS⟩ : ∃ S, S = lessC c h := ⟨_, rfl⟩
  have hfill : fillC c h = S ++ [h] := by rw [hS]; rfl
  rw [hfill]
  rw [← hS] at hlen hup
  unfold lessC at hS
  obtain ⟨k, hk⟩ : ∃ k, k = findH c h.tag h.page := ⟨_, rfl⟩
  rw [← hk] at hS hf c2 c3
  by_cases h0 : k ≥ 0
  · rw [if_pos h0] at hS
    obtain ⟨e1, e2⟩ := hf h0
    have c3 := c3 e2
    rw [← e1, ← hS] at c3
    have hwr : IntKind.i64.wrap (k + 1) = k + 1 := wrap_i64 _ (by omega) (by omega)
    have c5 : MutOK Try.prog 187 [.row 0, di k, di (IntKind.i64.wrap (k + 1))] 1 [(0, .row 156 4 c.length (hitsF c))] (.row 1) 2 [(1, .row 156 4 S.length (hitsF S))] := by rw [hwr]; exact c3
    refine fn_of lv127 Try.func127 rfl rfl (by kernel_rfl) rfl ?_
    refine .inl ⟨_, _, rfl, c1, rfl, ?_⟩
    refine .inl ⟨_, _, rfl, c2, rfl, ?_⟩
    refine bsplit_of_true (decide_eq_true h0) ?_
    refine .inr ⟨rfl, use_mut ⟨_, _, _, _, _, _, rfl, rfl, c5, rfl, ?_⟩⟩
    refine ask_intro ⟨by show (S.length + 1) * 32 ≤ 140737488355328; omega, by show S.length + 1 ≤ 9223372036854775807; omega, one_hit h⟩ ?_
    exact ⟨⟨⟨rfl, rfl, by show S.length + 1 = (S ++ [h]).length; simp, fun q hq => ⟨hup q (by simpa using hq), rfl⟩⟩, trivial⟩, rfl⟩
  rw [if_neg h0] at hS
  by_cases h12 : c.length ≥ 12
  · rw [if_pos h12] at hS
    have c4 := c4 (by omega)
    rw [← hS] at c4
    refine fn_of lv127 Try.func127 rfl rfl (by kernel_rfl) rfl ?_
    refine .inl ⟨_, _, rfl, c1, rfl, ?_⟩
    refine .inl ⟨_, _, rfl, c2, rfl, ?_⟩
    refine bsplit_of_false (decide_eq_false h0) ?_
    refine bsplit_of_true (beq_iff_eq.2 (show (c.length : Int) = 12 by omega)) ?_
    refine .inr ⟨rfl, use_mut ⟨_, _, _, _, _, _, rfl, rfl, c4, rfl, ?_⟩⟩
    refine ask_intro ⟨by show (S.length + 1) * 32 ≤ 140737488355328; omega, by show S.length + 1 ≤ 9223372036854775807; omega, one_hit h⟩ ?_
    exact ⟨⟨⟨rfl, rfl, by show S.length + 1 = (S ++ [h]).length; simp, fun q hq => ⟨hup q (by simpa using hq), rfl⟩⟩, trivial⟩, rfl⟩
  · rw [if_neg h12] at hS
    subst hS
    refine fn_of lv127 Try.func127 rfl rfl (by kernel_rfl) rfl ?_
    refine .inl ⟨_, _, rfl, c1, rfl, ?_⟩
    refine .inl ⟨_, _, rfl, c2, rfl, ?_⟩
    refine bsplit_of_false (decide_eq_false h0) ?_
    refine bsplit_of_false (beq_eq_false_iff_ne.2 (show ¬ (S.length : Int) = 12 by omega)) ?_
    refine ask_intro ⟨by show (S.length + 1) * 32 ≤ 140737488355328; omega, by show S.length + 1 ≤ 9223372036854775807; omega, one_hit h⟩ ?_
    exact ⟨⟨⟨rfl, rfl, by show S.length + 1 = (S ++ [h]).length; simp, fun q hq => ⟨hup q (by simpa using hq), rfl⟩⟩, trivial⟩, rfl⟩
/-- the hits of a cache but that at a place -/
def butL (c : List HitM) (at_ : Int) : Nat → List HitM
  | 0 => []
  | n + 1 => if (n : Int) = at_ then butL c at_ n else butL c at_ n ++ [c.getD n hit0]
theorem but_len (c : List HitM) (a : Int) : ∀ n, (butL c a n).length ≤ n
  | 0 => Nat.le_refl _
  | n + 1 => by
    have := but_len c a n
    simp only [butL]
    split
    · omega
    · simp; omega
theorem but_none (c : List HitM) (a : Int) (h : a < 0) : ∀ n, n ≤ c.length → butL c a n = c.take n
  | 0, _ => by simp [butL]
  | n + 1, hn => by
    simp only [butL]
    rw [if_neg (by omega), but_none c a h n (by omega), take_snoc hit0 c n (by omega)]
theorem but_lt (c : List HitM) (a : Int) : ∀ n, n ≤ c.length → (n : Int) ≤ a → butL c a n = c.take n
  | 0, _, _ => by simp [butL]
  | n + 1, hn, ha => by
    simp only [butL]
    rw [if_neg (by omega), but_lt c a n (by omega) (by omega), take_snoc hit0 c n (by omega)]
theorem but_erase (c : List HitM) (k : Nat) (hk : k < c.length) : ∀ m, k + 1 + m ≤ c.length → butL c k (k + 1 + m) = c.take k ++ (c.drop (k + 1)).take m
  | 0, _ => by
    simp only [Nat.add_zero, butL]
    rw [if_pos True.intro, but_lt c k k (by omega) (Int.le_refl _)]
    simp
  | m + 1, hm => by
    rw [show k + 1 + (m + 1) = (k + 1 + m) + 1 by omega]
    simp only [butL]
    rw [if_neg (by omega), but_erase c k hk m (by omega), take_snoc hit0 (c.drop (k + 1)) m (by simp; omega), List.append_assoc]
    congr 2
    simp [List.getD]
theorem but_all (c : List HitM) (h : HitM) : butL c (if findH c h.tag h.page < 0 ∧ c.length ≥ 12 then 0 else findH c h.tag h.page) c.length = lessC c h := by
  unfold lessC
  have er : ∀ k, k < c.length → butL c (k : Int) c.length = c.eraseIdx k := by
    intro k hk
    have := but_erase c k hk (c.length - (k + 1)) (by omega)
    rw [show k + 1 + (c.length - (k + 1)) = c.length by omega] at this
    rw [this, List.eraseIdx_eq_take_drop_succ]
    congr 1
    exact List.take_of_length_le (by simp)
  have hf := find_lt (c := c) (tag := h.tag) (page := h.page)
  by_cases h0 : findH c h.tag h.page ≥ 0
  · obtain ⟨e1, e2⟩ := hf h0
    rw [if_neg (by omega), if_pos h0]
    have := er _ e2
    rw [← e1] at this
    exact this
  · rw [if_neg h0]
    by_cases h12 : c.length ≥ 12
    · rw [if_pos ⟨by omega, h12⟩, if_pos h12]
      exact er 0 (by omega)
    · rw [if_neg (by omega), if_neg h12, but_none c _ (by omega) _ (Nat.le_refl _), List.take_length]
theorem c_spec_l5Fill (c : List HitM) (h : HitM) (hl : c.length ≤ 1048576) : FnOK Try.prog 184 [.d (hits c), hitLV h] (.r (.one (oHits (fillC c h)))) := by
  have c2 := c_spec_l5Find c h.tag h.page (by omega)
  have hbl := but_len c
  have hup := upto_hit
  have hall := but_all c h
  have hfill : fillC c h = lessC c h ++ [h] := rfl
  rw [hfill, ← hall]
  obtain ⟨k, hk⟩ : ∃ k, k = findH c h.tag h.page := ⟨_, rfl⟩
  rw [← hk] at c2 ⊢
  obtain ⟨a, ha⟩ : ∃ a, a = (if k < 0 ∧ c.length ≥ 12 then 0 else k) := ⟨_, rfl⟩
  rw [← ha]
  have key : ∀ (R : RV → Prop), True := fun _ => trivial
  by_cases h0 : k < 0
  · by_cases h12 : c.length ≥ 12
    · rw [if_pos ⟨h0, h12⟩] at ha
      subst ha
      refine fn_of lv184 Try.func184 rfl rfl (by kernel_rfl) rfl ?_
      refine .inl ⟨_, _, rfl, c2, rfl, ?_⟩
      refine bsplit_of_true (decide_eq_true h0) ?_
      repeat' (first | refine bsplit_true ?_ | refine bsplit_false ?_)
      refine bsplit_of_true (decide_eq_true (show (c.length : Int) ≥ 12 by omega)) ?_
      refine ⟨{ i : Nat // i ≤ c.length }, fun i => ⟨frL [(0, .d (hits c)), (3, .ptr 64 0), (5, di 0), (6, .row 66), (7, di i.1)], hpL [(64, .box 156 [di h.tag, di h.page, di h.to, di h.kinds]), (66, .row 156 4 (butL c 0 i.1).length (hitsF (butL c 0 i.1)))], 97, 0⟩, fun i => c.length - i.1, ⟨0, by omega⟩,
        le_of [(64, 0), (66, 16384)] rfl rfl rfl rfl (tellHp_box rfl rfl ⟨rfl, rfl, rfl, rfl, trivial⟩ (tellHp_row rfl rfl rfl (fun j hj => absurd hj (Nat.not_lt_zero _)) tellHp_nil)) (tellFr_d rfl (DLe.refl _) (tellFr_ptr rfl rfl (tellFr_v rfl rfl (tellFr_row rfl rfl (tellFr_v rfl rfl trivial))))), ?_⟩
      rintro ⟨i, hi⟩
      have hbi := hbl 0 i
      by_cases hi2 : i < c.length
      · have hwr := congrArg (Value.int .i64) (wrap1 hi2 (by omega))
        have hst : butL c 0 (i + 1) = if (i : Int) = 0 then butL c 0 i else butL c 0 i ++ [c.getD i hit0] := rfl
        have hu := hup (butL c 0 i) (c.getD i hit0)
        by_cases hia : (i : Int) = 0
        · rw [if_pos hia] at hst
          refine bsplit_of_true (decide_eq_true (show (i : Int) < (c.length : Int) by omega)) ?_
          refine bsplit_of_false (by show ((i : Int) != 0) = false; simp [hia]) ?_
          exact ⟨⟨i + 1, by omega⟩, le_of [(64, 64), (66, 66)] rfl rfl rfl rfl (tellHp_box rfl rfl ⟨rfl, rfl, rfl, rfl, trivial⟩ (tellHp_row rfl rfl (congrArg List.length hst.symm) (fun j hj => congrArg (fun S => hitsF S j) hst.symm) tellHp_nil)) (tellFr_d rfl (DLe.refl _) (tellFr_ptr rfl rfl (tellFr_v rfl rfl (tellFr_row rfl rfl (tellFr_v rfl hwr trivial))))), by show c.length - (i + 1) < c.length - i; omega⟩
        · rw [if_neg hia] at hst
          refine bsplit_of_true (decide_eq_true (show (i : Int) < (c.length : Int) by omega)) ?_
          refine bsplit_of_true (by show ((i : Int) != 0) = true; simpa using hia) ?_
          refine ask_intro ⟨by omega, by show (i : Int) < (c.length : Int); omega, rfl⟩ ?_
          refine ask_intro ⟨by show ((butL c 0 i).length + 1) * 32 ≤ 140737488355328; omega, by show (butL c 0 i).length + 1 ≤ 9223372036854775807; omega, one_hit (c.getD i hit0)⟩ ?_
          exact ⟨⟨i + 1, by omega⟩, le_of [(64, 64), (66, 8481)] rfl rfl rfl rfl (tellHp_box rfl rfl ⟨rfl, rfl, rfl, rfl, trivial⟩ (tellHp_row rfl rfl (by show (butL c 0 i).length + 1 = (butL c 0 (i + 1)).length; rw [hst]; simp) (fun j hj => (hu j hj).trans (congrArg (fun S => hitsF S j) hst.symm)) tellHp_nil)) (tellFr_d rfl (DLe.refl _) (tellFr_ptr rfl rfl (tellFr_v rfl rfl (tellFr_row rfl rfl (tellFr_v rfl hwr trivial))))), by show c.length - (i + 1) < c.length - i; omega⟩
      · obtain rfl : i = c.length := by omega
        refine bsplit_of_false (decide_eq_false (show ¬ (c.length : Int) < (c.length : Int) by omega)) ?_
        refine ask_intro ⟨by show ((butL c 0 c.length).length + 1) * 32 ≤ 140737488355328; omega, by show (butL c 0 c.length).length + 1 ≤ 9223372036854775807; omega, one_hit h⟩ ?_
        exact ⟨⟨⟨rfl, rfl, by show (butL c 0 c.length).length + 1 = (butL c 0 c.length ++ [h]).length; simp, fun q hq => ⟨hup (butL c 0 c.length) h q (by simpa using hq), rfl⟩⟩, trivial⟩, rfl⟩
    · rw [if_neg (fun hh => h12 hh.2)] at ha
      obtain rfl := ha
      refine fn_of lv184 Try.func184 rfl rfl (by kernel_rfl) rfl ?_
      refine .inl ⟨_, _, rfl, c2, rfl, ?_⟩
      refine bsplit_of_true (decide_eq_true h0) ?_
      repeat' (first | refine bsplit_true ?_ | refine bsplit_false ?_)
      refine bsplit_of_false (decide_eq_false (show ¬ (c.length : Int) ≥ 12 by omega)) ?_
      refine ⟨{ i : Nat // i ≤ c.length }, fun i => ⟨frL [(0, .d (hits c)), (3, .ptr 64 0), (5, di a), (6, .row 66), (7, di i.1)], hpL [(64, .box 156 [di h.tag, di h.page, di h.to, di h.kinds]), (66, .row 156 4 (butL c a i.1).length (hitsF (butL c a i.1)))], 97, 0⟩, fun i => c.length - i.1, ⟨0, by omega⟩,
        le_of [(64, 0), (66, 12288)] rfl rfl rfl rfl (tellHp_box rfl rfl ⟨rfl, rfl, rfl, rfl, trivial⟩ (tellHp_row rfl rfl rfl (fun j hj => absurd hj (Nat.not_lt_zero _)) tellHp_nil)) (tellFr_d rfl (DLe.refl _) (tellFr_ptr rfl rfl (tellFr_v rfl rfl (tellFr_row rfl rfl (tellFr_v rfl rfl trivial))))), ?_⟩
      rintro ⟨i, hi⟩
      have hbi := hbl a i
      by_cases hi2 : i < c.length
      · have hwr := congrArg (Value.int .i64) (wrap1 hi2 (by omega))
        have hst : butL c a (i + 1) = if (i : Int) = a then butL c a i else butL c a i ++ [c.getD i hit0] := rfl
        have hu := hup (butL c a i) (c.getD i hit0)
        by_cases hia : (i : Int) = a
        · rw [if_pos hia] at hst
          refine bsplit_of_true (decide_eq_true (show (i : Int) < (c.length : Int) by omega)) ?_
          refine bsplit_of_false (by show ((i : Int) != a) = false; simp [hia]) ?_
          exact ⟨⟨i + 1, by omega⟩, le_of [(64, 64), (66, 66)] rfl rfl rfl rfl (tellHp_box rfl rfl ⟨rfl, rfl, rfl, rfl, trivial⟩ (tellHp_row rfl rfl (congrArg List.length hst.symm) (fun j hj => congrArg (fun S => hitsF S j) hst.symm) tellHp_nil)) (tellFr_d rfl (DLe.refl _) (tellFr_ptr rfl rfl (tellFr_v rfl rfl (tellFr_row rfl rfl (tellFr_v rfl hwr trivial))))), by show c.length - (i + 1) < c.length - i; omega⟩
        · rw [if_neg hia] at hst
          refine bsplit_of_true (decide_eq_true (show (i : Int) < (c.length : Int) by omega)) ?_
          refine bsplit_of_true (by show ((i : Int) != a) = true; simpa using hia) ?_
          refine ask_intro ⟨by omega, by show (i : Int) < (c.length : Int); omega, rfl⟩ ?_
          refine ask_intro ⟨by show ((butL c a i).length + 1) * 32 ≤ 140737488355328; omega, by show (butL c a i).length + 1 ≤ 9223372036854775807; omega, one_hit (c.getD i hit0)⟩ ?_
          exact ⟨⟨i + 1, by omega⟩, le_of [(64, 64), (66, 8481)] rfl rfl rfl rfl (tellHp_box rfl rfl ⟨rfl, rfl, rfl, rfl, trivial⟩ (tellHp_row rfl rfl (by show (butL c a i).length + 1 = (butL c a (i + 1)).length; rw [hst]; simp) (fun j hj => (hu j hj).trans (congrArg (fun S => hitsF S j) hst.symm)) tellHp_nil)) (tellFr_d rfl (DLe.refl _) (tellFr_ptr rfl rfl (tellFr_v rfl rfl (tellFr_row rfl rfl (tellFr_v rfl hwr trivial))))), by show c.length - (i + 1) < c.length - i; omega⟩
      · obtain rfl : i = c.length := by omega
        refine bsplit_of_false (decide_eq_false (show ¬ (c.length : Int) < (c.length : Int) by omega)) ?_
        refine ask_intro ⟨by show ((butL c a c.length).length + 1) * 32 ≤ 140737488355328; omega, by show (butL c a c.length).length + 1 ≤ 9223372036854775807; omega, one_hit h⟩ ?_
        exact ⟨⟨⟨rfl, rfl, by show (butL c a c.length).length + 1 = (butL c a c.length ++ [h]).length; simp, fun q hq => ⟨hup (butL c a c.length) h q (by simpa using hq), rfl⟩⟩, trivial⟩, rfl⟩
  · rw [if_neg (fun hh => h0 hh.1)] at ha
    obtain rfl := ha
    refine fn_of lv184 Try.func184 rfl rfl (by kernel_rfl) rfl ?_
    refine .inl ⟨_, _, rfl, c2, rfl, ?_⟩
    refine bsplit_of_false (decide_eq_false h0) ?_
    repeat' (first | refine bsplit_true ?_ | refine bsplit_false ?_)
    refine ⟨{ i : Nat // i ≤ c.length }, fun i => ⟨frL [(0, .d (hits c)), (3, .ptr 64 0), (5, di a), (6, .row 66), (7, di i.1)], hpL [(64, .box 156 [di h.tag, di h.page, di h.to, di h.kinds]), (66, .row 156 4 (butL c a i.1).length (hitsF (butL c a i.1)))], 97, 0⟩, fun i => c.length - i.1, ⟨0, by omega⟩,
      le_of [(64, 0), (66, 12288)] rfl rfl rfl rfl (tellHp_box rfl rfl ⟨rfl, rfl, rfl, rfl, trivial⟩ (tellHp_row rfl rfl rfl (fun j hj => absurd hj (Nat.not_lt_zero _)) tellHp_nil)) (tellFr_d rfl (DLe.refl _) (tellFr_ptr rfl rfl (tellFr_v rfl rfl (tellFr_row rfl rfl (tellFr_v rfl rfl trivial))))), ?_⟩
    rintro ⟨i, hi⟩
    have hbi := hbl a i
    by_cases hi2 : i < c.length
    · have hwr := congrArg (Value.int .i64) (wrap1 hi2 (by omega))
      have hst : butL c a (i + 1) = if (i : Int) = a then butL c a i else butL c a i ++ [c.getD i hit0] := rfl
      have hu := hup (butL c a i) (c.getD i hit0)
      by_cases hia : (i : Int) = a
      · rw [if_pos hia] at hst
        refine bsplit_of_true (decide_eq_true (show (i : Int) < (c.length : Int) by omega)) ?_
        refine bsplit_of_false (by show ((i : Int) != a) = false; simp [hia]) ?_
        exact ⟨⟨i + 1, by omega⟩, le_of [(64, 64), (66, 66)] rfl rfl rfl rfl (tellHp_box rfl rfl ⟨rfl, rfl, rfl, rfl, trivial⟩ (tellHp_row rfl rfl (congrArg List.length hst.symm) (fun j hj => congrArg (fun S => hitsF S j) hst.symm) tellHp_nil)) (tellFr_d rfl (DLe.refl _) (tellFr_ptr rfl rfl (tellFr_v rfl rfl (tellFr_row rfl rfl (tellFr_v rfl hwr trivial))))), by show c.length - (i + 1) < c.length - i; omega⟩
      · rw [if_neg hia] at hst
        refine bsplit_of_true (decide_eq_true (show (i : Int) < (c.length : Int) by omega)) ?_
        refine bsplit_of_true (by show ((i : Int) != a) = true; simpa using hia) ?_
        refine ask_intro ⟨by omega, by show (i : Int) < (c.length : Int); omega, rfl⟩ ?_
        refine ask_intro ⟨by show ((butL c a i).length + 1) * 32 ≤ 140737488355328; omega, by show (butL c a i).length + 1 ≤ 9223372036854775807; omega, one_hit (c.getD i hit0)⟩ ?_
        exact ⟨⟨i + 1, by omega⟩, le_of [(64, 64), (66, 8481)] rfl rfl rfl rfl (tellHp_box rfl rfl ⟨rfl, rfl, rfl, rfl, trivial⟩ (tellHp_row rfl rfl (by show (butL c a i).length + 1 = (butL c a (i + 1)).length; rw [hst]; simp) (fun j hj => (hu j hj).trans (congrArg (fun S => hitsF S j) hst.symm)) tellHp_nil)) (tellFr_d rfl (DLe.refl _) (tellFr_ptr rfl rfl (tellFr_v rfl rfl (tellFr_row rfl rfl (tellFr_v rfl hwr trivial))))), by show c.length - (i + 1) < c.length - i; omega⟩
    · obtain rfl : i = c.length := by omega
      refine bsplit_of_false (decide_eq_false (show ¬ (c.length : Int) < (c.length : Int) by omega)) ?_
      refine ask_intro ⟨by show ((butL c a c.length).length + 1) * 32 ≤ 140737488355328; omega, by show (butL c a c.length).length + 1 ≤ 9223372036854775807; omega, one_hit h⟩ ?_
      exact ⟨⟨⟨rfl, rfl, by show (butL c a c.length).length + 1 = (butL c a c.length ++ [h]).length; simp, fun q hq => ⟨hup (butL c a c.length) h q (by simpa using hq), rfl⟩⟩, trivial⟩, rfl⟩
end Go.Proofs.Ytojaakpnpdnbhaa.L

/- A walk by a cache: contracts. -/
set_option linter.unusedVariables false
set_option linter.unusedSimpArgs false
set_option maxRecDepth 100000
namespace Go.Proofs.Ytojaakpnpdnbhaa.L
open Go.RowKit
structure CacM where
  code : Int
  val : Int
  hit : Bool
  cac : List HitM
  deriving DecidableEq
abbrev cacR (p : CacM) : RV1 := .agg [.v (.int .i64 p.code), .v (.int .i64 p.val), .v (.bool p.hit), oHits p.cac]
abbrev cacLV (p : CacM) : LV := .agg [di p.code, di p.val, dv (.bool p.hit), .d (hits p.cac)]
def askedW (c : List HitM) (tag : Int) (l : List PageM) (kind : Int) : Int := if cacheF c = 0 then (bif !inR tag 0 9 then 3 else if pagesFault l 24 = 0 then (bif !kindOk kind then 3 else 0) else pagesFault l 24) else cacheF c
abbrev pgOf (a : Int) : Int := IntKind.i64.wrap (Int.tdiv a 8)
abbrev placeW (to a : Int) : Int := IntKind.i64.wrap (IntKind.i64.wrap (to * 8) + Int.tmod a 8)
def walkL (c : List HitM) (tag : Int) (l : List PageM) (a kind : Int) : CacM := if walkP l a kind < 0 then ⟨kindC kind, 0, false, []⟩ else ⟨0, walkP l a kind, false, fillC c ⟨tag, pgOf a, (pageAt l a).to, (pageAt l a).kinds⟩⟩
def walkB (c : List HitM) (tag : Int) (l : List PageM) (a kind : Int) : CacM :=
  bif inR a 0 63 then (if findH c tag (pgOf a) ≥ 0 then (bif andI (c.getD (findH c tag (pgOf a)).toNat hit0).kinds kind == 0 then ⟨kindC kind, 0, false, []⟩ else ⟨0, placeW (c.getD (findH c tag (pgOf a)).toNat hit0).to a, true, c⟩) else walkL c tag l a kind) else walkL c tag l a kind
def walkC (c : List HitM) (tag : Int) (l : List PageM) (a kind : Int) : CacM := if askedW c tag l kind = 0 then walkB c tag l a kind else ⟨askedW c tag l kind, 0, false, []⟩
theorem c_spec_l5Asked (c : List HitM) (hc : c.length ≤ 1048576) (tag : Int) (l : List PageM) (hl : l.length ≤ 1048576) (kind : Int) : FnOK Try.prog 134 [.d (hits c), di tag, .d (Go.Proofs.Ytojaakpnpdnbhaa.L.pages l), di kind] (ri (askedW c tag l kind)) := by
  have c1 := c_spec_CacheFault c (by omega)
  have c2 := c_spec_l1In tag 0 9
  have c3 := c_spec_PagesFault l 24 hl
  have c4 := c_spec_l4Kind kind
  generalize hv : askedW c tag l kind = v
  unfold askedW at hv
  generalize cacheF c = e at *
  generalize pagesFault l 24 = e2 at *
  generalize inR tag 0 9 = b1 at *
  generalize kindOk kind = b2 at *
  refine fn_of lv134 Try.func134 rfl rfl (by kernel_rfl) rfl ?_
  refine .inl ⟨_, _, rfl, c1, rfl, ?_⟩
  refine bsplit_intro (fun h => ?_) (fun h => ?_)
  · rw [if_neg (by simpa using h)] at hv
    exact ⟨⟨congrArg (Value.int .i64) hv, trivial⟩, rfl⟩
  rw [if_pos (by simpa using h)] at hv
  refine .inl ⟨_, _, rfl, c2, rfl, ?_⟩
  refine bsplit_intro (fun h1 => ?_) (fun h1 => ?_)
  · rw [show (!b1) = true from h1] at hv
    exact ⟨⟨congrArg (Value.int .i64) hv, trivial⟩, rfl⟩
  rw [show (!b1) = false from h1, cond_false] at hv
  refine .inl ⟨_, _, rfl, c3, rfl, ?_⟩
  refine bsplit_intro (fun h2 => ?_) (fun h2 => ?_)
  · rw [if_neg (by simpa using h2)] at hv
    exact ⟨⟨congrArg (Value.int .i64) hv, trivial⟩, rfl⟩
  rw [if_pos (by simpa using h2)] at hv
  refine .inl ⟨_, _, rfl, c4, rfl, ?_⟩
  refine bsplit_intro (fun h3 => ?_) (fun h3 => ?_)
  · rw [show (!b2) = true from h3] at hv
    exact ⟨⟨congrArg (Value.int .i64) hv, trivial⟩, rfl⟩
  · rw [show (!b2) = false from h3] at hv
    exact ⟨⟨congrArg (Value.int .i64) hv, trivial⟩, rfl⟩
theorem askedW_ok {c : List HitM} {tag : Int} {l : List PageM} {kind : Int} (h : askedW c tag l kind = 0) : cacheF c = 0 ∧ pagesFault l 24 = 0 ∧ kindOk kind = true ∧ inR tag 0 9 = true := by
  unfold askedW at h
  split at h
  · rename_i h1
    cases ht : inR tag 0 9 with
    | false => rw [ht] at h; simp at h
    | true =>
      rw [ht] at h
      simp only [Bool.not_true, cond_false] at h
      split at h
      · rename_i h2
        cases hk : kindOk kind with
        | false => rw [hk] at h; simp at h
        | true => exact ⟨h1, h2, rfl, rfl⟩
      · rename_i h2; exact absurd h h2
  · rename_i h1; exact absurd h h1
theorem cacheF_len {c : List HitM} (h : cacheF c = 0) : c.length ≤ 12 := by
  unfold cacheF at h
  split at h
  · simp at h
  · omega
theorem kindOk_orU {k : Int} (h : kindOk k = true) : k = 1 ∨ k = 2 ∨ k = 4 := by
  unfold kindOk at h
  simpa using h
theorem walkP_at {l : List PageM} {a kind : Int} (h : ¬ walkP l a kind < 0) : inR a 0 63 = true := by
  unfold walkP at h
  cases hb : inR a 0 63 with
  | true => rfl
  | false => rw [hb] at h; exact absurd (show (-1 : Int) < 0 by decide) h
theorem c_spec_l5Walk (c : List HitM) (hc : c.length ≤ 12) (tag : Int) (l : List PageM) (hl : l.length = 8) (a kind : Int) (hk : kindOk kind = true) : FnOK Try.prog 135 [.d (hits c), di tag, .d (Go.Proofs.Ytojaakpnpdnbhaa.L.pages l), di a, di kind] (.r (cacR (walkB c tag l a kind))) := by
  have c1 := c_spec_l1In a 0 63
  have c2 := c_spec_l5Find c tag (pgOf a) (by omega)
  have c3 := c_spec_l4Code kind (kindOk_orU hk)
  have c4 := c_spec_l4Walk l hl a kind
  have c5 := c_spec_l5Fill c ⟨tag, pgOf a, (pageAt l a).to, (pageAt l a).kinds⟩ (by omega)
  have hf := find_lt (c := c) (tag := tag) (page := pgOf a)
  have hwp : ¬ walkP l a kind < 0 → 0 ≤ pgOf a ∧ pgOf a < (8 : Int) := fun h => by
    have h2 := inR_iff.1 (walkP_at h)
    obtain ⟨e1, e2, e3⟩ := div8 h2.1 h2.2
    show 0 ≤ IntKind.i64.wrap (Int.tdiv a 8) ∧ IntKind.i64.wrap (Int.tdiv a 8) < 8
    omega
  obtain ⟨v, hv⟩ : ∃ v, v = walkB c tag l a kind := ⟨_, rfl⟩
  rw [← hv]
  unfold walkB walkL at hv
  generalize walkP l a kind = w at *
  obtain ⟨k, hkk⟩ : ∃ k, k = findH c tag (pgOf a) := ⟨_, rfl⟩
  rw [← hkk] at hv hf c2
  obtain ⟨b, hb⟩ : ∃ b, b = inR a 0 63 := ⟨_, rfl⟩
  rw [← hb] at hv c1
  cases b with
  | true =>
    rw [cond_true] at hv
    by_cases h0 : k ≥ 0
    · rw [if_pos h0] at hv
      obtain ⟨e1, e2⟩ := hf h0
      have hlt : k < (c.length : Int) := by omega
      obtain ⟨z, hz⟩ : ∃ z, z = (andI (c.getD k.toNat hit0).kinds kind == 0) := ⟨_, rfl⟩
      rw [← hz] at hv
      refine fn_of lv135 Try.func135 rfl rfl (by kernel_rfl) rfl ?_
      refine .inl ⟨_, _, rfl, c1, rfl, ?_⟩
      refine bsplit_true ?_
      refine ask_intro (by decide) ?_
      refine .inl ⟨_, _, rfl, c2, rfl, ?_⟩
      refine bsplit_of_true (decide_eq_true h0) ?_
      refine ask_intro ⟨h0, hlt, rfl⟩ ?_
      cases z with
      | true =>
        have hv : v = ⟨kindC kind, 0, false, []⟩ := hv
        subst hv
        refine bsplit_of_true hz.symm ?_
        refine .inl ⟨_, _, rfl, c3, rfl, ?_⟩
        exact ⟨⟨rfl, rfl, rfl, ⟨rfl, rfl⟩, trivial⟩, rfl⟩
      | false =>
        have hv : v = ⟨0, placeW (c.getD k.toNat hit0).to a, true, c⟩ := hv
        subst hv
        refine bsplit_of_false hz.symm ?_
        refine ask_intro (by decide) ?_
        refine ask_intro ⟨by show (0 + c.length) * 32 ≤ 140737488355328; omega, by show 0 + c.length ≤ 9223372036854775807; omega, fun i hi => rfl⟩ ?_
        refine chk_intro (by kernel_rfl) ?_
        exact ⟨⟨rfl, rfl, rfl, ⟨rfl, rfl, Nat.zero_add _, fun j hj => ⟨rfl, rfl⟩⟩, trivial⟩, rfl⟩
    · rw [if_neg h0] at hv
      refine fn_of lv135 Try.func135 rfl rfl (by kernel_rfl) rfl ?_
      refine .inl ⟨_, _, rfl, c1, rfl, ?_⟩
      refine bsplit_true ?_
      refine ask_intro (by decide) ?_
      refine .inl ⟨_, _, rfl, c2, rfl, ?_⟩
      refine bsplit_of_false (decide_eq_false h0) ?_
      refine .inl ⟨_, _, rfl, c4, rfl, ?_⟩
      refine bsplit_intro (fun h => ?_) (fun h => ?_)
      · rw [if_pos (of_decide_eq_true h)] at hv
        subst hv
        refine .inl ⟨_, _, rfl, c3, rfl, ?_⟩
        exact ⟨⟨rfl, rfl, rfl, ⟨rfl, rfl⟩, trivial⟩, rfl⟩
      · have h := of_decide_eq_false h
        rw [if_neg h] at hv
        subst hv
        obtain ⟨q1, q2⟩ := hwp h
        refine ask_intro (by decide) ?_
        refine ask_intro ⟨q1, by show pgOf a < (l.length : Int); omega, rfl⟩ ?_
        refine ask_intro ⟨q1, by show pgOf a < (l.length : Int); omega, rfl⟩ ?_
        refine .inl ⟨_, _, rfl, c5, rfl, ?_⟩
        refine chk_intro (by kernel_rfl) ?_
        exact ⟨⟨rfl, rfl, rfl, ⟨rfl, rfl, rfl, fun j hj => ⟨rfl, rfl⟩⟩, trivial⟩, rfl⟩
  | false =>
    rw [cond_false] at hv
    refine fn_of lv135 Try.func135 rfl rfl (by kernel_rfl) rfl ?_
    refine .inl ⟨_, _, rfl, c1, rfl, ?_⟩
    refine bsplit_false ?_
    refine .inl ⟨_, _, rfl, c4, rfl, ?_⟩
    refine bsplit_intro (fun h => ?_) (fun h => ?_)
    · rw [if_pos (of_decide_eq_true h)] at hv
      subst hv
      refine .inl ⟨_, _, rfl, c3, rfl, ?_⟩
      exact ⟨⟨rfl, rfl, rfl, ⟨rfl, rfl⟩, trivial⟩, rfl⟩
    · have h := of_decide_eq_false h
      rw [if_neg h] at hv
      subst hv
      obtain ⟨q1, q2⟩ := hwp h
      refine ask_intro (by decide) ?_
      refine ask_intro ⟨q1, by show pgOf a < (l.length : Int); omega, rfl⟩ ?_
      refine ask_intro ⟨q1, by show pgOf a < (l.length : Int); omega, rfl⟩ ?_
      refine .inl ⟨_, _, rfl, c5, rfl, ?_⟩
      refine chk_intro (by kernel_rfl) ?_
      exact ⟨⟨rfl, rfl, rfl, ⟨rfl, rfl, rfl, fun j hj => ⟨rfl, rfl⟩⟩, trivial⟩, rfl⟩
end Go.Proofs.Ytojaakpnpdnbhaa.L

/- Walks with a cache: contracts. -/
set_option linter.unusedVariables false
set_option linter.unusedSimpArgs false
set_option maxRecDepth 100000
namespace Go.Proofs.Ytojaakpnpdnbhaa.L
open Go.RowKit
theorem c_spec_WalkCached (c : List HitM) (hc : c.length ≤ 1048576) (tag : Int) (l : List PageM) (hl : l.length ≤ 1048576) (a kind : Int) : FnOK Try.prog 59 [.d (hits c), di tag, .d (Go.Proofs.Ytojaakpnpdnbhaa.L.pages l), di a, di kind] (.r (cacR (walkC c tag l a kind))) := by
  have c1 := c_spec_l5Asked c hc tag l hl kind
  by_cases h : askedW c tag l kind = 0
  · obtain ⟨h1, h2, h3, h4⟩ := askedW_ok h
    have c2 := c_spec_l5Walk c (cacheF_len h1) tag l (pagesFault_ok h2).len a kind h3
    rw [show walkC c tag l a kind = walkB c tag l a kind from if_pos h]
    rw [h] at c1
    refine fn_of lv59 Try.func59 rfl rfl (by kernel_rfl) rfl ?_
    refine .inl ⟨_, _, rfl, c1, rfl, ?_⟩
    refine bsplit_false ?_
    refine .inl ⟨_, _, rfl, c2, rfl, ?_⟩
    exact ⟨⟨rfl, rfl, rfl, ⟨rfl, rfl, rfl, fun j hj => ⟨rfl, rfl⟩⟩, trivial⟩, rfl⟩
  · rw [show walkC c tag l a kind = ⟨askedW c tag l kind, 0, false, []⟩ from if_neg h]
    generalize askedW c tag l kind = e at *
    refine fn_of lv59 Try.func59 rfl rfl (by kernel_rfl) rfl ?_
    refine .inl ⟨_, _, rfl, c1, rfl, ?_⟩
    refine bsplit_of_true (by simpa using h) ?_
    exact ⟨⟨rfl, rfl, rfl, ⟨rfl, rfl⟩, trivial⟩, rfl⟩
set_option maxHeartbeats 1600000 in
theorem c_impl_WalkCached (c : List HitM) (hc : c.length ≤ 1048576) (tag : Int) (l : List PageM) (hl : l.length ≤ 1048576) (a kind : Int) : FnOK Try.prog 54 [.d (hits c), di tag, .d (Go.Proofs.Ytojaakpnpdnbhaa.L.pages l), di a, di kind] (.r (cacR (walkC c tag l a kind))) := by
  have c1 := c_impl_CacheFault c (by omega)
  have c2 := c_impl_within tag 0 9
  have c3 := c_impl_PagesFault l 24 hl
  have c5 := c_impl_kindCode kind
  by_cases he : cacheF c = 0
  rotate_left
  · rw [show walkC c tag l a kind = ⟨cacheF c, 0, false, []⟩ by unfold walkC askedW; rw [if_neg he, if_neg he]]
    have hz := firstNZ_two (cacheF c) (pagesFault l 24)
    rw [if_neg he] at hz
    generalize cacheF c = e at *
    generalize pagesFault l 24 = e2 at *
    have c4 := (c_impl_firstOf [e, e2] (by simp))
    rw [hz] at c4
    refine fn_of lv54 Try.func54 rfl rfl (by kernel_rfl) rfl ?_
    refine .inl ⟨_, _, rfl, c1, rfl, ?_⟩
    repeat' (first | refine bsplit_true ?_ | refine bsplit_false ?_)
    refine bsplit_of_false (by simpa using he) ?_
    repeat' (first | refine bsplit_true ?_ | refine bsplit_false ?_)
    refine .inl ⟨_, _, rfl, c3, rfl, ?_⟩
    repeat' (first | refine bsplit_true ?_ | refine bsplit_false ?_)
    refine .inl ⟨_, _, rfl, c4.weak ⟨LVLe.d (DLe.l rfl (fun i hi => litD_eq [e, e2] i hi)), trivial⟩, rfl, ?_⟩
    repeat' (first | refine bsplit_true ?_ | refine bsplit_false ?_)
    refine bsplit_of_false (by simpa using he) ?_
    repeat' (first | refine bsplit_true ?_ | refine bsplit_false ?_)
    refine bsplit_of_true (by simpa using he) ?_
    repeat' (first | refine bsplit_true ?_ | refine bsplit_false ?_)
    exact ⟨⟨rfl, rfl, rfl, ⟨rfl, rfl⟩, trivial⟩, rfl⟩
  rw [he] at c1
  cases ht : inR tag 0 9 with
  | false =>
    rw [show walkC c tag l a kind = ⟨3, 0, false, []⟩ by unfold walkC askedW; rw [if_pos he, ht]; rfl]
    rw [ht] at c2
    have hz : firstNZ [3, pagesFault l 24] = 3 := by rw [firstNZ_two]; rfl
    generalize pagesFault l 24 = e2 at *
    have c4 := (c_impl_firstOf [3, e2] (by simp))
    rw [hz] at c4
    refine fn_of lv54 Try.func54 rfl rfl (by kernel_rfl) rfl ?_
    refine .inl ⟨_, _, rfl, c1, rfl, ?_⟩
    repeat' (first | refine bsplit_true ?_ | refine bsplit_false ?_)
    refine .inl ⟨_, _, rfl, c2, rfl, ?_⟩
    repeat' (first | refine bsplit_true ?_ | refine bsplit_false ?_)
    refine .inl ⟨_, _, rfl, c3, rfl, ?_⟩
    repeat' (first | refine bsplit_true ?_ | refine bsplit_false ?_)
    refine .inl ⟨_, _, rfl, c4.weak ⟨LVLe.d (DLe.l rfl (fun i hi => litD_eq [3, e2] i hi)), trivial⟩, rfl, ?_⟩
    repeat' (first | refine bsplit_true ?_ | refine bsplit_false ?_)
    exact ⟨⟨rfl, rfl, rfl, ⟨rfl, rfl⟩, trivial⟩, rfl⟩
  | true =>
  rw [ht] at c2
  have c4 := (c_impl_firstOf [0, pagesFault l 24] (by simp))
  rw [show firstNZ [0, pagesFault l 24] = pagesFault l 24 by rw [firstNZ_two]; rfl] at c4
  by_cases hp : pagesFault l 24 = 0
  rotate_left
  · rw [show walkC c tag l a kind = ⟨pagesFault l 24, 0, false, []⟩ by unfold walkC askedW; rw [if_pos he, ht, if_neg hp]; exact if_neg hp]
    generalize pagesFault l 24 = e2 at *
    refine fn_of lv54 Try.func54 rfl rfl (by kernel_rfl) rfl ?_
    refine .inl ⟨_, _, rfl, c1, rfl, ?_⟩
    repeat' (first | refine bsplit_true ?_ | refine bsplit_false ?_)
    refine .inl ⟨_, _, rfl, c2, rfl, ?_⟩
    repeat' (first | refine bsplit_true ?_ | refine bsplit_false ?_)
    refine .inl ⟨_, _, rfl, c3, rfl, ?_⟩
    repeat' (first | refine bsplit_true ?_ | refine bsplit_false ?_)
    refine .inl ⟨_, _, rfl, c4.weak ⟨LVLe.d (DLe.l rfl (fun i hi => litD_eq [0, e2] i hi)), trivial⟩, rfl, ?_⟩
    repeat' (first | refine bsplit_true ?_ | refine bsplit_false ?_)
    refine bsplit_of_false (by simpa using hp) ?_
    repeat' (first | refine bsplit_true ?_ | refine bsplit_false ?_)
    refine bsplit_of_true (by simpa using hp) ?_
    repeat' (first | refine bsplit_true ?_ | refine bsplit_false ?_)
    exact ⟨⟨rfl, rfl, rfl, ⟨rfl, rfl⟩, trivial⟩, rfl⟩
  have hok := pagesFault_ok hp
  rw [hp] at c3 c4
  have hkc := kindC_ok kind
  cases hk : kindOk kind with
  | false =>
    rw [show walkC c tag l a kind = ⟨3, 0, false, []⟩ by unfold walkC askedW; rw [if_pos he, ht, if_pos hp, hk]; rfl]
    rw [hk] at hkc
    generalize kindC kind = z at *
    refine fn_of lv54 Try.func54 rfl rfl (by kernel_rfl) rfl ?_
    refine .inl ⟨_, _, rfl, c1, rfl, ?_⟩
    repeat' (first | refine bsplit_true ?_ | refine bsplit_false ?_)
    refine .inl ⟨_, _, rfl, c2, rfl, ?_⟩
    repeat' (first | refine bsplit_true ?_ | refine bsplit_false ?_)
    refine .inl ⟨_, _, rfl, c3, rfl, ?_⟩
    repeat' (first | refine bsplit_true ?_ | refine bsplit_false ?_)
    refine .inl ⟨_, _, rfl, c4.weak ⟨LVLe.d (DLe.l rfl (fun i hi => litD_eq [0, 0] i hi)), trivial⟩, rfl, ?_⟩
    repeat' (first | refine bsplit_true ?_ | refine bsplit_false ?_)
    refine .inl ⟨_, _, rfl, c5, rfl, ?_⟩
    repeat' (first | refine bsplit_true ?_ | refine bsplit_false ?_)
    refine bsplit_of_true hkc ?_
    repeat' (first | refine bsplit_true ?_ | refine bsplit_false ?_)
    exact ⟨⟨rfl, rfl, rfl, ⟨rfl, rfl⟩, trivial⟩, rfl⟩
  | true =>
  rw [hk] at hkc
  have hkn : (kindC kind != 0) = true := by simpa using hkc
  have hask : askedW c tag l kind = 0 := by unfold askedW; rw [if_pos he, ht, if_pos hp, hk]; rfl
  rw [show walkC c tag l a kind = walkB c tag l a kind from if_pos hask]
  have hcl := cacheF_len he
  have c6 := c_impl_hasPage a
  have c7 := c_impl_hitAt c tag (pgOf a) (by omega)
  have c8 := c_slices_Clone_Hit c (by omega)
  have c9 := c_impl_walk l 24 hok (by omega) a kind
  have c10 := c_impl_filled c ⟨tag, pgOf a, (pageAt l a).to, (pageAt l a).kinds⟩ hcl
  have hf := find_lt (c := c) (tag := tag) (page := pgOf a)
  have hlen := hok.len
  have hwp : ¬ walkP l a kind < 0 → 0 ≤ pgOf a ∧ pgOf a < (8 : Int) := fun h => by
    have h2 := inR_iff.1 (walkP_at h)
    obtain ⟨e1, e2, e3⟩ := div8 h2.1 h2.2
    show 0 ≤ IntKind.i64.wrap (Int.tdiv a 8) ∧ IntKind.i64.wrap (Int.tdiv a 8) < 8
    omega
  obtain ⟨v, hv⟩ : ∃ v, v = walkB c tag l a kind := ⟨_, rfl⟩
  rw [← hv]
  unfold walkB walkL at hv
  unfold walkI at c9
  generalize walkP l a kind = w at *
  generalize kindC kind = z at *
  obtain ⟨k, hkk⟩ : ∃ k, k = findH c tag (pgOf a) := ⟨_, rfl⟩
  rw [← hkk] at hv hf c7
  obtain ⟨b, hb⟩ : ∃ b, b = inR a 0 63 := ⟨_, rfl⟩
  rw [← hb] at hv c6
  by_cases h0 : b = true ∧ k ≥ 0
  · obtain ⟨rfl, h0⟩ := h0
    rw [cond_true, if_pos h0] at hv
    obtain ⟨e1, e2⟩ := hf h0
    have hlt : k < (c.length : Int) := by omega
    obtain ⟨y, hy⟩ : ∃ y, y = (andI (c.getD k.toNat hit0).kinds kind == 0) := ⟨_, rfl⟩
    rw [← hy] at hv
    refine fn_of lv54 Try.func54 rfl rfl (by kernel_rfl) rfl ?_
    refine .inl ⟨_, _, rfl, c1, rfl, ?_⟩
    repeat' (first | refine bsplit_true ?_ | refine bsplit_false ?_)
    refine .inl ⟨_, _, rfl, c2, rfl, ?_⟩
    repeat' (first | refine bsplit_true ?_ | refine bsplit_false ?_)
    refine .inl ⟨_, _, rfl, c3, rfl, ?_⟩
    repeat' (first | refine bsplit_true ?_ | refine bsplit_false ?_)
    refine .inl ⟨_, _, rfl, c4.weak ⟨LVLe.d (DLe.l rfl (fun i hi => litD_eq [0, 0] i hi)), trivial⟩, rfl, ?_⟩
    repeat' (first | refine bsplit_true ?_ | refine bsplit_false ?_)
    refine .inl ⟨_, _, rfl, c5, rfl, ?_⟩
    repeat' (first | refine bsplit_true ?_ | refine bsplit_false ?_)
    refine bsplit_of_false hkc ?_
    repeat' (first | refine bsplit_true ?_ | refine bsplit_false ?_)
    refine .inl ⟨_, _, rfl, c6, rfl, ?_⟩
    repeat' (first | refine bsplit_true ?_ | refine bsplit_false ?_)
    refine ask_intro (by decide) ?_
    refine .inl ⟨_, _, rfl, c7, rfl, ?_⟩
    repeat' (first | refine bsplit_true ?_ | refine bsplit_false ?_)
    refine bsplit_of_true (decide_eq_true h0) ?_
    repeat' (first | refine bsplit_true ?_ | refine bsplit_false ?_)
    refine ask_intro ⟨h0, hlt, rfl⟩ ?_
    cases y with
    | true =>
      have hv : v = ⟨z, 0, false, []⟩ := hv
      subst hv
      refine bsplit_of_true hy.symm ?_
      repeat' (first | refine bsplit_true ?_ | refine bsplit_false ?_)
      refine .inl ⟨_, _, rfl, c5, rfl, ?_⟩
      repeat' (first | refine bsplit_true ?_ | refine bsplit_false ?_)
      exact ⟨⟨rfl, rfl, rfl, ⟨rfl, rfl⟩, trivial⟩, rfl⟩
    | false =>
      have hv : v = ⟨0, placeW (c.getD k.toNat hit0).to a, true, c⟩ := hv
      subst hv
      refine bsplit_of_false hy.symm ?_
      repeat' (first | refine bsplit_true ?_ | refine bsplit_false ?_)
      refine ask_intro (by decide) ?_
      refine .inl ⟨_, _, rfl, c8, rfl, ?_⟩
      repeat' (first | refine bsplit_true ?_ | refine bsplit_false ?_)
      refine chk_intro (by kernel_rfl) ?_
      exact ⟨⟨rfl, rfl, rfl, ⟨rfl, rfl, rfl, fun j hj => ⟨rfl, rfl⟩⟩, trivial⟩, rfl⟩
  have hv : v = (if w < 0 then (⟨z, 0, false, []⟩ : CacM) else ⟨0, w, false, fillC c ⟨tag, pgOf a, (pageAt l a).to, (pageAt l a).kinds⟩⟩) := by
    rw [hv]
    cases b with
    | false => rfl
    | true => rw [cond_true, if_neg (fun h => h0 ⟨rfl, h⟩)]
  have tl : ∀ K : Prop, True := fun _ => trivial
  by_cases hw : w < 0
  · rw [if_pos hw] at hv c9
    subst hv
    cases b with
    | false =>
      refine fn_of lv54 Try.func54 rfl rfl (by kernel_rfl) rfl ?_
      refine .inl ⟨_, _, rfl, c1, rfl, ?_⟩
      repeat' (first | refine bsplit_true ?_ | refine bsplit_false ?_)
      refine .inl ⟨_, _, rfl, c2, rfl, ?_⟩
      repeat' (first | refine bsplit_true ?_ | refine bsplit_false ?_)
      refine .inl ⟨_, _, rfl, c3, rfl, ?_⟩
      repeat' (first | refine bsplit_true ?_ | refine bsplit_false ?_)
      refine .inl ⟨_, _, rfl, c4.weak ⟨LVLe.d (DLe.l rfl (fun i hi => litD_eq [0, 0] i hi)), trivial⟩, rfl, ?_⟩
      repeat' (first | refine bsplit_true ?_ | refine bsplit_false ?_)
      refine .inl ⟨_, _, rfl, c5, rfl, ?_⟩
      repeat' (first | refine bsplit_true ?_ | refine bsplit_false ?_)
      refine bsplit_of_false hkc ?_
      repeat' (first | refine bsplit_true ?_ | refine bsplit_false ?_)
      refine .inl ⟨_, _, rfl, c6, rfl, ?_⟩
      repeat' (first | refine bsplit_true ?_ | refine bsplit_false ?_)
      refine .inl ⟨_, _, rfl, c9, rfl, ?_⟩
      repeat' (first | refine bsplit_true ?_ | refine bsplit_false ?_)
      refine bsplit_of_true hkn ?_
      repeat' (first | refine bsplit_true ?_ | refine bsplit_false ?_)
      exact ⟨⟨rfl, rfl, rfl, ⟨rfl, rfl⟩, trivial⟩, rfl⟩
    | true =>
      have h1 : ¬ k ≥ 0 := fun h => h0 ⟨rfl, h⟩
      refine fn_of lv54 Try.func54 rfl rfl (by kernel_rfl) rfl ?_
      refine .inl ⟨_, _, rfl, c1, rfl, ?_⟩
      repeat' (first | refine bsplit_true ?_ | refine bsplit_false ?_)
      refine .inl ⟨_, _, rfl, c2, rfl, ?_⟩
      repeat' (first | refine bsplit_true ?_ | refine bsplit_false ?_)
      refine .inl ⟨_, _, rfl, c3, rfl, ?_⟩
      repeat' (first | refine bsplit_true ?_ | refine bsplit_false ?_)
      refine .inl ⟨_, _, rfl, c4.weak ⟨LVLe.d (DLe.l rfl (fun i hi => litD_eq [0, 0] i hi)), trivial⟩, rfl, ?_⟩
      repeat' (first | refine bsplit_true ?_ | refine bsplit_false ?_)
      refine .inl ⟨_, _, rfl, c5, rfl, ?_⟩
      repeat' (first | refine bsplit_true ?_ | refine bsplit_false ?_)
      refine bsplit_of_false hkc ?_
      repeat' (first | refine bsplit_true ?_ | refine bsplit_false ?_)
      refine .inl ⟨_, _, rfl, c6, rfl, ?_⟩
      repeat' (first | refine bsplit_true ?_ | refine bsplit_false ?_)
      refine ask_intro (by decide) ?_
      refine .inl ⟨_, _, rfl, c7, rfl, ?_⟩
      repeat' (first | refine bsplit_true ?_ | refine bsplit_false ?_)
      refine bsplit_of_false (decide_eq_false h1) ?_
      repeat' (first | refine bsplit_true ?_ | refine bsplit_false ?_)
      refine .inl ⟨_, _, rfl, c9, rfl, ?_⟩
      repeat' (first | refine bsplit_true ?_ | refine bsplit_false ?_)
      refine bsplit_of_true hkn ?_
      repeat' (first | refine bsplit_true ?_ | refine bsplit_false ?_)
      exact ⟨⟨rfl, rfl, rfl, ⟨rfl, rfl⟩, trivial⟩, rfl⟩
  · rw [if_neg hw] at hv c9
    obtain ⟨q1, q2⟩ := hwp hw
    subst hv
    cases b with
    | false =>
      refine fn_of lv54 Try.func54 rfl rfl (by kernel_rfl) rfl ?_
      refine .inl ⟨_, _, rfl, c1, rfl, ?_⟩
      repeat' (first | refine bsplit_true ?_ | refine bsplit_false ?_)
      refine .inl ⟨_, _, rfl, c2, rfl, ?_⟩
      repeat' (first | refine bsplit_true ?_ | refine bsplit_false ?_)
      refine .inl ⟨_, _, rfl, c3, rfl, ?_⟩
      repeat' (first | refine bsplit_true ?_ | refine bsplit_false ?_)
      refine .inl ⟨_, _, rfl, c4.weak ⟨LVLe.d (DLe.l rfl (fun i hi => litD_eq [0, 0] i hi)), trivial⟩, rfl, ?_⟩
      repeat' (first | refine bsplit_true ?_ | refine bsplit_false ?_)
      refine .inl ⟨_, _, rfl, c5, rfl, ?_⟩
      repeat' (first | refine bsplit_true ?_ | refine bsplit_false ?_)
      refine bsplit_of_false hkc ?_
      repeat' (first | refine bsplit_true ?_ | refine bsplit_false ?_)
      refine .inl ⟨_, _, rfl, c6, rfl, ?_⟩
      repeat' (first | refine bsplit_true ?_ | refine bsplit_false ?_)
      refine .inl ⟨_, _, rfl, c9, rfl, ?_⟩
      repeat' (first | refine bsplit_true ?_ | refine bsplit_false ?_)
      refine ask_intro (by decide) ?_
      refine ask_intro ⟨q1, by show pgOf a < (l.length : Int); omega, rfl⟩ ?_
      refine ask_intro (by decide) ?_
      refine .inl ⟨_, _, rfl, c10, rfl, ?_⟩
      repeat' (first | refine bsplit_true ?_ | refine bsplit_false ?_)
      refine chk_intro (by kernel_rfl) ?_
      exact ⟨⟨rfl, rfl, rfl, ⟨rfl, rfl, rfl, fun j hj => ⟨rfl, rfl⟩⟩, trivial⟩, rfl⟩
    | true =>
      have h1 : ¬ k ≥ 0 := fun h => h0 ⟨rfl, h⟩
      refine fn_of lv54 Try.func54 rfl rfl (by kernel_rfl) rfl ?_
      refine .inl ⟨_, _, rfl, c1, rfl, ?_⟩
      repeat' (first | refine bsplit_true ?_ | refine bsplit_false ?_)
      refine .inl ⟨_, _, rfl, c2, rfl, ?_⟩
      repeat' (first | refine bsplit_true ?_ | refine bsplit_false ?_)
      refine .inl ⟨_, _, rfl, c3, rfl, ?_⟩
      repeat' (first | refine bsplit_true ?_ | refine bsplit_false ?_)
      refine .inl ⟨_, _, rfl, c4.weak ⟨LVLe.d (DLe.l rfl (fun i hi => litD_eq [0, 0] i hi)), trivial⟩, rfl, ?_⟩
      repeat' (first | refine bsplit_true ?_ | refine bsplit_false ?_)
      refine .inl ⟨_, _, rfl, c5, rfl, ?_⟩
      repeat' (first | refine bsplit_true ?_ | refine bsplit_false ?_)
      refine bsplit_of_false hkc ?_
      repeat' (first | refine bsplit_true ?_ | refine bsplit_false ?_)
      refine .inl ⟨_, _, rfl, c6, rfl, ?_⟩
      repeat' (first | refine bsplit_true ?_ | refine bsplit_false ?_)
      refine ask_intro (by decide) ?_
      refine .inl ⟨_, _, rfl, c7, rfl, ?_⟩
      repeat' (first | refine bsplit_true ?_ | refine bsplit_false ?_)
      refine bsplit_of_false (decide_eq_false h1) ?_
      repeat' (first | refine bsplit_true ?_ | refine bsplit_false ?_)
      refine .inl ⟨_, _, rfl, c9, rfl, ?_⟩
      repeat' (first | refine bsplit_true ?_ | refine bsplit_false ?_)
      refine ask_intro (by decide) ?_
      refine ask_intro ⟨q1, by show pgOf a < (l.length : Int); omega, rfl⟩ ?_
      refine ask_intro (by decide) ?_
      refine .inl ⟨_, _, rfl, c10, rfl, ?_⟩
      repeat' (first | refine bsplit_true ?_ | refine bsplit_false ?_)
      refine chk_intro (by kernel_rfl) ?_
      exact ⟨⟨rfl, rfl, rfl, ⟨rfl, rfl, rfl, fun j hj => ⟨rfl, rfl⟩⟩, trivial⟩, rfl⟩
end Go.Proofs.Ytojaakpnpdnbhaa.L

/- Caches: flushing and fitting: contracts. -/
set_option linter.unusedVariables false
set_option linter.unusedSimpArgs false
set_option maxRecDepth 100000
namespace Go.Proofs.Ytojaakpnpdnbhaa.L
open Go.RowKit
theorem c_slices_IndexFunc_Hit1 (g : Nat) (p : HitM → Bool) (a : Int) (hg : ∀ x, FnOK Try.prog g [hitLV x, .dptr [dI a]] (rb (p x))) (l : List HitM) (hl : l.length ≤ 4611686018427387904) : FnOK Try.prog 185 [.d (hits l), .fn g [.dptr [dI a]]] (ri (idxG p l 0)) := by
  refine fn_of lv185 Try.func185 rfl rfl (by kernel_rfl) rfl ?_
  refine ⟨{ i : Nat // i ≤ l.length ∧ idxG p l i = idxG p l 0 }, fun i => ⟨frL [(0, .d (hits l)), (1, .fn g [.dptr [dI a]]), (7, di l.length), (8, di i.1)], hpL [], 0, 0⟩, fun i => l.length - i.1, ⟨0, by omega, rfl⟩,
    le_of [] rfl rfl rfl rfl trivial (tellFr_d rfl (DLe.refl _) (tellFr_fn rfl ⟨⟨DLe.refl _, trivial⟩, trivial⟩ (tellFr_v rfl rfl (tellFr_v rfl rfl trivial)))), ?_⟩
  rintro ⟨i, hi, hall⟩
  refine bsplit_intro (fun h => ?_) (fun h => ?_)
  · have h : i < l.length := by simp at h; exact h
    refine ask_intro ⟨by omega, by simp; omega, rfl⟩ ?_
    refine .inl ⟨_, _, rfl, hg (l.getD i hit0), rfl, ?_⟩
    refine bsplit_intro (fun h2 => ?_) (fun h2 => ?_)
    · exact ⟨⟨congrArg (Value.int .i64) ((idxG_hit hit0 h h2).symm.trans hall), trivial⟩, rfl⟩
    · exact ⟨⟨i + 1, by omega, (idxG_miss hit0 h h2).symm.trans hall⟩, le_of [] rfl rfl rfl rfl trivial (tellFr_d rfl (DLe.refl _) (tellFr_fn rfl ⟨⟨DLe.refl _, trivial⟩, trivial⟩ (tellFr_v rfl rfl (tellFr_v rfl (congrArg (Value.int .i64) (wrap1 h hl)) trivial)))), by show l.length - (i + 1) < l.length - i; omega⟩
  · simp at h
    exact ⟨⟨congrArg (Value.int .i64) ((idxG_end h).symm.trans hall), trivial⟩, rfl⟩
theorem c_slices_IndexFunc_Hit2 (g : Nat) (p : HitM → Bool) (a : Int) (m : List PageM) (l : List HitM) (hg : ∀ i, i < l.length → FnOK Try.prog g [hitLV (l.getD i hit0), .dptr [dI a], .dptr [Go.Proofs.Ytojaakpnpdnbhaa.L.pages m]] (rb (p (l.getD i hit0)))) (hl : l.length ≤ 4611686018427387904) : FnOK Try.prog 185 [.d (hits l), .fn g [.dptr [dI a], .dptr [Go.Proofs.Ytojaakpnpdnbhaa.L.pages m]]] (ri (idxG p l 0)) := by
  refine fn_of lv185 Try.func185 rfl rfl (by kernel_rfl) rfl ?_
  refine ⟨{ i : Nat // i ≤ l.length ∧ idxG p l i = idxG p l 0 }, fun i => ⟨frL [(0, .d (hits l)), (1, .fn g [.dptr [dI a], .dptr [Go.Proofs.Ytojaakpnpdnbhaa.L.pages m]]), (7, di l.length), (8, di i.1)], hpL [], 0, 0⟩, fun i => l.length - i.1, ⟨0, by omega, rfl⟩,
    le_of [] rfl rfl rfl rfl trivial (tellFr_d rfl (DLe.refl _) (tellFr_fn rfl ⟨⟨DLe.refl _, trivial⟩, ⟨DLe.refl _, trivial⟩, trivial⟩ (tellFr_v rfl rfl (tellFr_v rfl rfl trivial)))), ?_⟩
  rintro ⟨i, hi, hall⟩
  refine bsplit_intro (fun h => ?_) (fun h => ?_)
  · have h : i < l.length := by simp at h; exact h
    refine ask_intro ⟨by omega, by simp; omega, rfl⟩ ?_
    refine .inl ⟨_, _, rfl, hg i h, rfl, ?_⟩
    refine bsplit_intro (fun h2 => ?_) (fun h2 => ?_)
    · exact ⟨⟨congrArg (Value.int .i64) ((idxG_hit hit0 h h2).symm.trans hall), trivial⟩, rfl⟩
    · exact ⟨⟨i + 1, by omega, (idxG_miss hit0 h h2).symm.trans hall⟩, le_of [] rfl rfl rfl rfl trivial (tellFr_d rfl (DLe.refl _) (tellFr_fn rfl ⟨⟨DLe.refl _, trivial⟩, ⟨DLe.refl _, trivial⟩, trivial⟩ (tellFr_v rfl rfl (tellFr_v rfl (congrArg (Value.int .i64) (wrap1 h hl)) trivial)))), by show l.length - (i + 1) < l.length - i; omega⟩
  · simp at h
    exact ⟨⟨congrArg (Value.int .i64) ((idxG_end h).symm.trans hall), trivial⟩, rfl⟩
theorem filt_none {l : List HitM} {p : HitM → Bool} (h : idxG p l 0 = -1) : l.filter (fun x => !p x) = l := by
  rw [List.filter_eq_self]
  intro x hx
  unfold idxG at h
  rw [List.drop_zero] at h
  cases ha : l.any p with
  | true => rw [ha] at h; simp at h
  | false =>
    cases hp : p x with
    | false => rfl
    | true => exact absurd (List.any_eq_true.2 ⟨x, hx, hp⟩) (by simp [ha])
theorem filt_first {l : List HitM} {p : HitM → Bool} (h : idxG p l 0 ≥ 0) : (l.take ((idxG p l 0).toNat + 1)).filter (fun x => !p x) = l.take (idxG p l 0).toNat := by
  have h1 := (idx_lt h).2
  have e : (idxG p l 0).toNat = l.findIdx p := by
    unfold idxG at *
    rw [List.drop_zero] at *
    cases ha : l.any p with
    | false => rw [ha] at h; simp at h
    | true => simp
  rw [e] at h1 ⊢
  rw [List.take_succ_eq_append_getElem h1, List.filter_append]
  have h2 : p l[l.findIdx p] = true := List.findIdx_getElem
  have h3 : (l.take (l.findIdx p)).filter (fun x => !p x) = l.take (l.findIdx p) := by
    rw [List.filter_eq_self]
    intro x hx
    obtain ⟨i, hi, rfl⟩ := List.getElem_of_mem hx
    have hi2 : i < l.findIdx p := by simp at hi; omega
    have := List.not_of_lt_findIdx hi2
    simpa using this
  rw [h3]
  simp [h2]
structure FiltI (l : List HitM) (p : HitM → Bool) (m : List HitM) (i j : Nat) : Prop where
  len : m.length = l.length
  le : j ≤ l.length
  fil : m.take i = (l.take j).filter (fun x => !p x)
  il : i < j
  tl : ∀ k, j ≤ k → m.getD k hit0 = l.getD k hit0
theorem FiltI.first {l : List HitM} {p : HitM → Bool} (h : idxG p l 0 ≥ 0) : FiltI l p l (idxG p l 0).toNat ((idxG p l 0).toNat + 1) := ⟨rfl, (idx_lt h).2, (filt_first h).symm, by omega, fun _ _ => rfl⟩
theorem FiltI.skip {l : List HitM} {p : HitM → Bool} {m : List HitM} {i j : Nat} (h : FiltI l p m i j) (hj : j < l.length) (hp : p (l.getD j hit0) = true) : FiltI l p m i (j + 1) := by
  refine ⟨h.len, hj, ?_, by have := h.il; omega, fun k hk => h.tl k (by omega)⟩
  rw [h.fil, List.take_succ_eq_append_getElem hj, List.filter_append]
  rw [getD_at hit0 hj] at hp
  simp [hp]
theorem FiltI.keep {l : List HitM} {p : HitM → Bool} {m : List HitM} {i j : Nat} (h : FiltI l p m i j) (hj : j < l.length) (hp : p (l.getD j hit0) = false) : FiltI l p (m.set i (m.getD j hit0)) (i + 1) (j + 1) := by
  have hil := h.il
  have hlen := h.len
  refine ⟨by rw [List.length_set]; exact h.len, hj, ?_, by omega, fun k hk => ?_⟩
  · rw [List.take_succ_eq_append_getElem hj, List.filter_append, ← h.fil]
    have e : (m.set i (m.getD j hit0)).take (i + 1) = m.take i ++ [m.getD j hit0] := by
      rw [List.take_succ_eq_append_getElem (by rw [List.length_set]; omega)]
      simp [List.take_set_of_le]
    rw [e, h.tl j (Nat.le_refl _)]
    rw [getD_at hit0 hj] at hp ⊢
    simp [hp]
  · rw [← h.tl k (by omega)]
    simp only [List.getD]
    rw [List.getElem?_set_ne (by omega)]
theorem FiltI.last {l : List HitM} {p : HitM → Bool} {m : List HitM} {i j : Nat} (h : FiltI l p m i j) (hj : ¬ j < l.length) : m.take i = l.filter (fun x => !p x) := by
  rw [h.fil, List.take_of_length_le (by omega)]
end Go.Proofs.Ytojaakpnpdnbhaa.L

/- Caches: flushing: contracts. -/
set_option linter.unusedVariables false
set_option linter.unusedSimpArgs false
set_option maxRecDepth 100000
namespace Go.Proofs.Ytojaakpnpdnbhaa.L
open Go.RowKit
theorem set_hit {l : List HitM} {i : Nat} {v : HitM} (hi : i < l.length) (j : Nat) : (if j = i then splice (hitsF l j) 0 (hitD v) else hitsF l j) = hitsF (l.set i v) j := by
  show _ = hitD ((l.set i _).getD j hit0)
  by_cases e : j = i
  · subst e
    rw [if_pos rfl]
    simp [List.getD, hi, splice, List.getElem?_eq_getElem hi]
  · rw [if_neg e]
    show hitD (l.getD j hit0) = _
    simp [List.getD, List.getElem?_set_ne (Ne.symm e)]
theorem idx_neg {l : List HitM} {p : HitM → Bool} (h : ¬ idxG p l 0 ≥ 0) : idxG p l 0 = -1 := by
  revert h
  unfold idxG
  cases (l.drop 0).any p with
  | true => intro h; simp at h
  | false => intro _; rfl
set_option maxHeartbeats 1600000 in
theorem c_slices_DeleteFunc_Hit (g : Nat) (p : HitM → Bool) (a : Int) (hg : ∀ x, FnOK Try.prog g [hitLV x, .dptr [dI a]] (rb (p x))) (l : List HitM) (hl : l.length ≤ 1048576) :
    MutOK Try.prog 128 [.row 0, .fn g [.ptr 1 0]] 2 [(0, rowHit l), (1, .box 2 [di a])] (.d (hits (l.filter fun x => !p x))) 2 [] := by
  have c1 := c_slices_IndexFunc_Hit1 g p a hg l (by omega)
  by_cases h0 : idxG p l 0 ≥ 0
  rotate_left
  · have h1 := idx_neg h0
    rw [filt_none h1]
    rw [h1] at c1
    refine mut_fn_of lv128 Try.func128 rfl rfl (by kernel_rfl) rfl [] ?_
    refine .inl ⟨_, _, rfl, c1, rfl, ?_⟩
    refine bsplit_true ?_
    exact chk_intro (by kernel_rfl) ⟨tellV_frz rfl rfl rfl (DLe.refl _), tellHp_nil⟩
  have hfst := FiltI.first h0
  obtain ⟨i0, hi0⟩ : ∃ i : Nat, i = (idxG p l 0).toNat := ⟨_, rfl⟩
  have hi1 : idxG p l 0 = (i0 : Int) := by omega
  rw [← hi0] at hfst
  rw [hi1] at c1
  have hlt := hfst.le
  have hfl : (l.filter fun x => !p x).length ≤ l.length := List.length_filter_le _ _
  refine mut_fn_of lv128 Try.func128 rfl rfl (by kernel_rfl) rfl [] ?_
  refine .inl ⟨_, _, rfl, c1, rfl, ?_⟩
  refine bsplit_of_false (show ((i0 : Int) == -1) = false by rw [beq_eq_false_iff_ne]; omega) ?_
  refine ⟨{ x : List HitM × Nat × Nat // FiltI l p x.1 x.2.1 x.2.2 }, fun x => ⟨frL [(0, .row 0), (1, .fn g [.ptr 1 0]), (5, di x.1.2.1), (6, di x.1.2.2)], hpL [(0, .row 156 4 l.length (hitsF x.1.1)), (1, .box 2 [di a])], 2, 2⟩, fun x => l.length - x.1.2.2, ⟨(l, i0, i0 + 1), hfst⟩,
    le_of [] rfl rfl rfl rfl (tellHp_row rfl rfl rfl (fun i hi => rfl) (tellHp_box rfl rfl ⟨rfl, trivial⟩ tellHp_nil)) (tellFr_row rfl rfl (tellFr_fn rfl ⟨⟨rfl, rfl⟩, trivial⟩ (tellFr_v rfl rfl (tellFr_v rfl (congrArg (Value.int .i64) (show IntKind.i64.wrap ((i0 : Int) + 1) = ((i0 + 1 : Nat) : Int) from wrap_i64 _ (by omega) (by omega))) trivial)))), ?_⟩
  rintro ⟨⟨m, i, j⟩, hF⟩
  have hF : FiltI l p m i j := hF
  have hil := hF.il
  have hjl := hF.le
  have hml := hF.len
  by_cases hj : j < l.length
  · have hwj := congrArg (Value.int .i64) (wrap1 hj (by omega))
    have hwi : IntKind.i64.wrap ((i : Int) + 1) = ((i + 1 : Nat) : Int) := wrap_i64 _ (by omega) (by omega)
    have hgj := hg (m.getD j hit0)
    have htl := hF.tl j (Nat.le_refl _)
    obtain ⟨b, hb⟩ : ∃ b, b = p (m.getD j hit0) := ⟨_, rfl⟩
    rw [← hb] at hgj
    refine bsplit_of_true (decide_eq_true (show (j : Int) < (l.length : Int) by omega)) ?_
    refine ask_intro ⟨by omega, by show (j : Int) < (l.length : Int); omega⟩ ?_
    refine ask_intro (by show j < l.length; exact hj) ?_
    refine .inl ⟨_, _, rfl, hgj, rfl, ?_⟩
    cases b with
    | true =>
      refine bsplit_false ?_
      exact ⟨⟨(m, i, j + 1), hF.skip hj (by rw [← htl]; exact hb.symm)⟩, le_of [] rfl rfl rfl rfl (tellHp_row rfl rfl rfl (fun i hi => rfl) (tellHp_box rfl rfl ⟨rfl, trivial⟩ tellHp_nil)) (tellFr_row rfl rfl (tellFr_fn rfl ⟨⟨rfl, rfl⟩, trivial⟩ (tellFr_v rfl rfl (tellFr_v rfl hwj trivial)))), by show l.length - (j + 1) < l.length - j; omega⟩
    | false =>
      refine bsplit_true ?_
      refine ask_intro ⟨by omega, by show (i : Int) < (l.length : Int); omega⟩ ?_
      refine ask_intro (by show i < l.length; omega) ?_
      exact ⟨⟨(m.set i (m.getD j hit0), i + 1, j + 1), hF.keep hj (by rw [← htl]; exact hb.symm)⟩, le_of [] rfl rfl rfl rfl (tellHp_row rfl rfl rfl (fun q hq => set_hit (l := m) (i := i) (v := m.getD j hit0) (by omega) q) (tellHp_box rfl rfl ⟨rfl, trivial⟩ tellHp_nil)) (tellFr_row rfl rfl (tellFr_fn rfl ⟨⟨rfl, rfl⟩, trivial⟩ (tellFr_v rfl (congrArg (Value.int .i64) hwi) (tellFr_v rfl hwj trivial)))), by show l.length - (j + 1) < l.length - j; omega⟩
  · have hlast := hF.last hj
    refine bsplit_of_false (decide_eq_false (show ¬ (j : Int) < (l.length : Int) by omega)) ?_
    refine ask_intro ⟨by omega, by show (i : Int) ≤ (l.length : Int); omega, by show ((0 : Nat) : Int) + (l.length : Int) ≤ (l.length : Int); omega, .inr rfl⟩ ?_
    refine ask_intro trivial ?_
    have hlf : i = (l.filter fun x => !p x).length := by rw [← hlast, List.length_take]; omega
    refine ask_intro ⟨by omega, by show (0 : Int) ≤ (i : Int); omega, by show (i : Int) ≤ (l.length : Int); omega, .inr (fun q hq => ?_)⟩ ?_
    · unfold putF; split <;> rfl
    refine chk_intro (by kernel_rfl) ⟨DLe.l ?_ (fun q hq => ?_), tellHp_nil⟩
    · show ((i : Int) - 0).toNat = _
      omega
    · have hq : q < ((i : Int) - 0).toNat := hq
      have hq : q < i := by omega
      show putF (0 + (i : Int).toNat) ((0 + ((l.length - 0 : Nat) : Int).toNat) - (0 + (i : Int).toNat)) (fun x => [.v (.int .i64 0), .v (.int .i64 0), .v (.int .i64 0), .v (.int .i64 0)]) (hitsF m) q = hitsF (l.filter fun x => !p x) q
      unfold putF
      rw [if_neg (by omega), ← hlast]
      simp only [hitsF, List.getD, List.getElem?_take, if_pos hq]
theorem c_impl_FlushCache_1 (x : HitM) (tag : Int) : FnOK Try.prog 129 [hitLV x, .dptr [dI tag]] (rb (x.tag == tag)) := by
  refine fn_of lv129 Try.func129 rfl rfl (by kernel_rfl) rfl ?_
  exact ⟨⟨rfl, trivial⟩, rfl⟩
def flushM (c : List HitM) (tag : Int) : CacM := if cacheF c = 0 then (bif inR tag 0 9 then ⟨0, 0, false, c.filter fun x => !(x.tag == tag)⟩ else ⟨3, 0, false, []⟩) else ⟨cacheF c, 0, false, []⟩
abbrev cacSh (p : CacM) : RV1 := .agg [.v (.int .i64 p.code), .v (.int .i64 p.val), .v (.bool p.hit), .sh (hits p.cac)]
theorem c_impl_FlushCache (c : List HitM) (hc : c.length ≤ 1048576) (tag : Int) : FnOK Try.prog 55 [.d (hits c), di tag] (.r (cacSh (flushM c tag))) := by
  have c1 := c_impl_CacheFault c (by omega)
  have c2 := c_impl_within tag 0 9
  have c3 := c_slices_Clone_Hit c (by omega)
  have c4 := c_slices_DeleteFunc_Hit 129 (fun x => x.tag == tag) tag (fun x => c_impl_FlushCache_1 x tag) c hc
  obtain ⟨v, hv⟩ : ∃ v, v = flushM c tag := ⟨_, rfl⟩
  rw [← hv]
  unfold flushM at hv
  generalize cacheF c = e at *
  generalize inR tag 0 9 = b at *
  refine fn_of lv55 Try.func55 rfl rfl (by kernel_rfl) rfl ?_
  refine .inl ⟨_, _, rfl, c1, rfl, ?_⟩
  refine bsplit_intro (fun h => ?_) (fun h => ?_)
  · rw [if_neg (by simpa using h)] at hv
    subst hv
    exact ⟨⟨rfl, rfl, rfl, DLe.nil _, trivial⟩, rfl⟩
  rw [if_pos (by simpa using h)] at hv
  refine .inl ⟨_, _, rfl, c2, rfl, ?_⟩
  refine bsplit_intro (fun h1 => ?_) (fun h1 => ?_)
  · rw [show b = false by simpa using h1] at hv
    have hv : v = ⟨3, 0, false, []⟩ := hv
    subst hv
    exact ⟨⟨rfl, rfl, rfl, DLe.nil _, trivial⟩, rfl⟩
  rw [show b = true by simpa using h1] at hv
  have hv : v = ⟨0, 0, false, c.filter fun x => !(x.tag == tag)⟩ := hv
  subst hv
  refine .inl ⟨_, _, rfl, c3, rfl, ?_⟩
  refine .inr ⟨rfl, use_mut ⟨_, _, _, _, _, _, rfl, rfl, c4, rfl, ?_⟩⟩
  exact ⟨⟨rfl, rfl, rfl, DLe.refl _, trivial⟩, rfl⟩
theorem pageEq (p q : PageM) : ([p.to, p.kinds] == [q.to, q.kinds]) = decide (p = q) := by
  obtain ⟨a, b⟩ := p
  obtain ⟨c, d⟩ := q
  by_cases h1 : a = c <;> by_cases h2 : b = d <;> simp [h1, h2]
/-- a hit that the pages do not bear out -/
def badH (tag : Int) (l : List PageM) (h : HitM) : Bool := h.tag == tag && !(decide (l.getD h.page.toNat ⟨0, 0⟩ = ⟨h.to, h.kinds⟩))
theorem c_impl_CacheFits_1 (x : HitM) (tag : Int) (l : List PageM) (hx : 0 ≤ x.page ∧ x.page < (l.length : Int)) : FnOK Try.prog 132 [hitLV x, .dptr [dI tag], .dptr [Go.Proofs.Ytojaakpnpdnbhaa.L.pages l]] (rb (badH tag l x)) := by
  generalize hv : badH tag l x = v
  unfold badH at hv
  refine fn_of lv132 Try.func132 rfl rfl (by kernel_rfl) rfl ?_
  refine bsplit_intro (fun h => ?_) (fun h => ?_)
  · have h : (x.tag == tag) = true := h
    rw [h] at hv
    repeat' (first | refine bsplit_true ?_ | refine bsplit_false ?_)
    refine ask_intro ⟨hx.1, hx.2, rfl⟩ ?_
    repeat' (first | refine bsplit_true ?_ | refine bsplit_false ?_)
    refine chk_intro (by kernel_rfl) ?_
    refine ⟨⟨congrArg Value.bool (?_ : _ = v), trivial⟩, rfl⟩
    rw [← hv, Bool.true_and, ← pageEq]
  · have h : (x.tag == tag) = false := h
    rw [h] at hv
    have hv : false = v := hv
    repeat' (first | refine bsplit_true ?_ | refine bsplit_false ?_)
    refine chk_intro (by kernel_rfl) ?_
    exact ⟨⟨congrArg Value.bool hv, trivial⟩, rfl⟩
theorem cacheGo_in : ∀ (bs ah : List HitM), cacheGo ah bs = 0 → ∀ h ∈ bs, hitB h = true
  | [], _, _, h, hm => by simp at hm
  | x :: xs, ah, h, y, hm => by
    unfold cacheGo at h
    split at h
    · rename_i h1
      split at h
      · simp at h
      · rcases List.mem_cons.1 hm with rfl | hm
        · exact h1
        · exact cacheGo_in xs _ h y hm
    · simp at h
theorem cacheF_in {c : List HitM} (h : cacheF c = 0) (i : Nat) (hi : i < c.length) : 0 ≤ (c.getD i hit0).page ∧ (c.getD i hit0).page < 8 := by
  unfold cacheF at h
  split at h
  · simp at h
  have := cacheGo_in c [] h (c.getD i hit0) (by rw [getD_at hit0 hi]; exact List.getElem_mem hi)
  unfold hitB at this
  simp only [Bool.and_eq_true, inR_iff] at this
  omega
theorem c_slices_ContainsFunc_Hit2 (g : Nat) (p : HitM → Bool) (a : Int) (m : List PageM) (l : List HitM) (hg : ∀ i, i < l.length → FnOK Try.prog g [hitLV (l.getD i hit0), .dptr [dI a], .dptr [Go.Proofs.Ytojaakpnpdnbhaa.L.pages m]] (rb (p (l.getD i hit0)))) (hl : l.length ≤ 4611686018427387904) : FnOK Try.prog 131 [.d (hits l), .fn g [.dptr [dI a], .dptr [Go.Proofs.Ytojaakpnpdnbhaa.L.pages m]]] (rb (l.any p)) := by
  have c1 := c_slices_IndexFunc_Hit2 g p a m l hg hl
  refine fn_of lv131 Try.func131 rfl rfl (by kernel_rfl) rfl ?_
  refine .inl ⟨_, _, rfl, c1, rfl, ?_⟩
  exact ⟨⟨congrArg Value.bool (idxG_any l p), trivial⟩, rfl⟩
def fitsM (c : List HitM) (tag : Int) (l : List PageM) : Bool := if cacheF c = 0 ∧ pagesFault l 24 = 0 then !(c.any (badH tag l)) else false
theorem c_impl_CacheFits (c : List HitM) (hc : c.length ≤ 1048576) (tag : Int) (l : List PageM) (hl : l.length ≤ 1048576) : FnOK Try.prog 57 [.d (hits c), di tag, .d (Go.Proofs.Ytojaakpnpdnbhaa.L.pages l)] (rb (fitsM c tag l)) := by
  have c1 := c_impl_CacheFault c (by omega)
  have c2 := c_impl_PagesFault l 24 hl
  by_cases h1 : cacheF c = 0
  rotate_left
  · rw [show fitsM c tag l = false from if_neg (fun h => h1 h.1)]
    generalize cacheF c = e at *
    refine fn_of lv57 Try.func57 rfl rfl (by kernel_rfl) rfl ?_
    refine .inl ⟨_, _, rfl, c1, rfl, ?_⟩
    refine bsplit_of_true (by simpa using h1) ?_
    repeat' (first | refine bsplit_true ?_ | refine bsplit_false ?_)
    exact ⟨⟨rfl, trivial⟩, rfl⟩
  by_cases h2 : pagesFault l 24 = 0
  rotate_left
  · rw [show fitsM c tag l = false from if_neg (fun h => h2 h.2)]
    rw [h1] at c1
    generalize pagesFault l 24 = e2 at *
    refine fn_of lv57 Try.func57 rfl rfl (by kernel_rfl) rfl ?_
    refine .inl ⟨_, _, rfl, c1, rfl, ?_⟩
    repeat' (first | refine bsplit_true ?_ | refine bsplit_false ?_)
    refine .inl ⟨_, _, rfl, c2, rfl, ?_⟩
    repeat' (first | refine bsplit_true ?_ | refine bsplit_false ?_)
    refine bsplit_of_true (by simpa using h2) ?_
    repeat' (first | refine bsplit_true ?_ | refine bsplit_false ?_)
    exact ⟨⟨rfl, trivial⟩, rfl⟩
  rw [show fitsM c tag l = !(c.any (badH tag l)) from if_pos ⟨h1, h2⟩]
  have hlen := (pagesFault_ok h2).len
  have c3 := c_slices_ContainsFunc_Hit2 132 (badH tag l) tag l c (fun i hi => c_impl_CacheFits_1 _ tag l (by have := cacheF_in h1 i hi; omega)) (by omega)
  rw [h1] at c1
  rw [h2] at c2
  refine fn_of lv57 Try.func57 rfl rfl (by kernel_rfl) rfl ?_
  refine .inl ⟨_, _, rfl, c1, rfl, ?_⟩
  repeat' (first | refine bsplit_true ?_ | refine bsplit_false ?_)
  refine .inl ⟨_, _, rfl, c2, rfl, ?_⟩
  repeat' (first | refine bsplit_true ?_ | refine bsplit_false ?_)
  refine .inl ⟨_, _, rfl, c3, rfl, ?_⟩
  exact ⟨⟨rfl, trivial⟩, rfl⟩
theorem c_spec_CacheFits (c : List HitM) (hc : c.length ≤ 1048576) (tag : Int) (l : List PageM) (hl : l.length ≤ 1048576) : FnOK Try.prog 58 [.d (hits c), di tag, .d (Go.Proofs.Ytojaakpnpdnbhaa.L.pages l)] (rb (fitsM c tag l)) := by
  have c1 := c_spec_CacheFault c (by omega)
  have c2 := c_spec_PagesFault l 24 hl
  by_cases h1 : cacheF c = 0
  rotate_left
  · rw [show fitsM c tag l = false from if_neg (fun h => h1 h.1)]
    generalize cacheF c = e at *
    refine fn_of lv58 Try.func58 rfl rfl (by kernel_rfl) rfl ?_
    refine .inl ⟨_, _, rfl, c1, rfl, ?_⟩
    refine bsplit_of_true (by simpa using h1) ?_
    repeat' (first | refine bsplit_true ?_ | refine bsplit_false ?_)
    exact ⟨⟨rfl, trivial⟩, rfl⟩
  by_cases h2 : pagesFault l 24 = 0
  rotate_left
  · rw [show fitsM c tag l = false from if_neg (fun h => h2 h.2)]
    rw [h1] at c1
    generalize pagesFault l 24 = e2 at *
    refine fn_of lv58 Try.func58 rfl rfl (by kernel_rfl) rfl ?_
    refine .inl ⟨_, _, rfl, c1, rfl, ?_⟩
    repeat' (first | refine bsplit_true ?_ | refine bsplit_false ?_)
    refine .inl ⟨_, _, rfl, c2, rfl, ?_⟩
    repeat' (first | refine bsplit_true ?_ | refine bsplit_false ?_)
    refine bsplit_of_true (by simpa using h2) ?_
    repeat' (first | refine bsplit_true ?_ | refine bsplit_false ?_)
    exact ⟨⟨rfl, trivial⟩, rfl⟩
  obtain ⟨v, hv⟩ : ∃ v, v = c.any (badH tag l) := ⟨_, rfl⟩
  rw [show fitsM c tag l = !v by rw [hv]; exact if_pos ⟨h1, h2⟩]
  have hlen := (pagesFault_ok h2).len
  have hin := fun i hi => cacheF_in h1 i hi
  rw [h1] at c1
  rw [h2] at c2
  refine fn_of lv58 Try.func58 rfl rfl (by kernel_rfl) rfl ?_
  refine .inl ⟨_, _, rfl, c1, rfl, ?_⟩
  repeat' (first | refine bsplit_true ?_ | refine bsplit_false ?_)
  refine .inl ⟨_, _, rfl, c2, rfl, ?_⟩
  repeat' (first | refine bsplit_true ?_ | refine bsplit_false ?_)
  refine ⟨{ i : Nat // i ≤ c.length ∧ v = (c.drop i).any (badH tag l) }, fun i => ⟨frL [(0, .d (hits c)), (1, di tag), (2, .d (Go.Proofs.Ytojaakpnpdnbhaa.L.pages l)), (7, di i.1)], hpL [], 0, 0⟩, fun i => c.length - i.1, ⟨0, by omega, hv⟩,
    le_of [] rfl rfl rfl rfl trivial (tellFr_d rfl (DLe.refl _) (tellFr_v rfl rfl (tellFr_d rfl (DLe.refl _) (tellFr_v rfl rfl trivial)))), ?_⟩
  rintro ⟨i, hi, hall⟩
  by_cases hi2 : i < c.length
  rotate_left
  · rw [List.drop_eq_nil_of_le (by omega)] at hall
    have hall : v = false := hall
    subst hall
    refine bsplit_of_false (decide_eq_false (show ¬ (i : Int) < (c.length : Int) by omega)) ?_
    exact ⟨⟨rfl, trivial⟩, rfl⟩
  rw [drop_anyG hit0 c (badH tag l) i hi2] at hall
  have hp := hin i hi2
  have hwr := congrArg (Value.int .i64) (wrap1 hi2 (by omega))
  have hb : badH tag l (c.getD i hit0) = ((c.getD i hit0).tag == tag && !(decide (l.getD (c.getD i hit0).page.toNat ⟨0, 0⟩ = ⟨(c.getD i hit0).to, (c.getD i hit0).kinds⟩))) := rfl
  rw [← pageEq] at hb
  generalize badH tag l (c.getD i hit0) = b at *
  refine bsplit_of_true (decide_eq_true (show (i : Int) < (c.length : Int) by omega)) ?_
  refine ask_intro ⟨by omega, by show (i : Int) < (c.length : Int); omega, rfl⟩ ?_
  refine bsplit_intro (fun h => ?_) (fun h => ?_)
  · rw [show ((c.getD i hit0).tag == tag) = true from h, Bool.true_and] at hb
    repeat' (first | refine bsplit_true ?_ | refine bsplit_false ?_)
    refine ask_intro ⟨hp.1, by show (c.getD i hit0).page < (l.length : Int); omega, rfl⟩ ?_
    repeat' (first | refine bsplit_true ?_ | refine bsplit_false ?_)
    refine chk_intro (by kernel_rfl) ?_
    refine bsplit_intro (fun h5 => ?_) (fun h5 => ?_)
    · rw [hb.trans h5] at hall
      have hall : v = true := hall
      subst hall
      exact ⟨⟨rfl, trivial⟩, rfl⟩
    · rw [hb.trans h5, Bool.false_or] at hall
      exact ⟨⟨i + 1, by omega, hall⟩, le_of [] rfl rfl rfl rfl trivial (tellFr_d rfl (DLe.refl _) (tellFr_v rfl rfl (tellFr_d rfl (DLe.refl _) (tellFr_v rfl hwr trivial)))), by show c.length - (i + 1) < c.length - i; omega⟩
  · rw [show ((c.getD i hit0).tag == tag) = false from h] at hb
    have hb : b = false := hb
    rw [hb, Bool.false_or] at hall
    repeat' (first | refine bsplit_true ?_ | refine bsplit_false ?_)
    refine chk_intro (by kernel_rfl) ?_
    repeat' (first | refine bsplit_true ?_ | refine bsplit_false ?_)
    exact ⟨⟨i + 1, by omega, hall⟩, le_of [] rfl rfl rfl rfl trivial (tellFr_d rfl (DLe.refl _) (tellFr_v rfl rfl (tellFr_d rfl (DLe.refl _) (tellFr_v rfl hwr trivial)))), by show c.length - (i + 1) < c.length - i; omega⟩
theorem c_impl_WalkPages (l : List PageM) (hl : l.length ≤ 1048576) (a kind : Int) : FnOK Try.prog 49 [.d (Go.Proofs.Ytojaakpnpdnbhaa.L.pages l), di a, di kind] (.r (irR (if pagesFault l 24 = 0 then (bif kindOk kind then walkI l a kind else (3, 0)) else (pagesFault l 24, 0)))) := by
  have c1 := c_impl_PagesFault l 24 hl
  have c2 := c_impl_kindCode kind
  have hk := kindC_ok kind
  obtain ⟨v, hv⟩ : ∃ v, v = (if pagesFault l 24 = 0 then (bif kindOk kind then walkI l a kind else (3, 0)) else (pagesFault l 24, 0)) := ⟨_, rfl⟩
  rw [← hv]
  by_cases h : pagesFault l 24 = 0
  rotate_left
  · rw [if_neg h] at hv
    subst hv
    generalize pagesFault l 24 = e at *
    refine fn_of lv49 Try.func49 rfl rfl (by kernel_rfl) rfl ?_
    refine .inl ⟨_, _, rfl, c1, rfl, ?_⟩
    refine bsplit_of_true (by simpa using h) ?_
    exact ⟨⟨rfl, rfl, trivial⟩, rfl⟩
  rw [if_pos h] at hv
  have c3 := c_impl_walk l 24 (pagesFault_ok h) (by omega) a kind
  rw [h] at c1
  cases hkk : kindOk kind with
  | false =>
    rw [hkk] at hv hk
    have hv : v = (3, 0) := hv
    subst hv
    refine fn_of lv49 Try.func49 rfl rfl (by kernel_rfl) rfl ?_
    refine .inl ⟨_, _, rfl, c1, rfl, ?_⟩
    repeat' (first | refine bsplit_true ?_ | refine bsplit_false ?_)
    refine .inl ⟨_, _, rfl, c2, rfl, ?_⟩
    refine bsplit_of_true hk ?_
    exact ⟨⟨rfl, rfl, trivial⟩, rfl⟩
  | true =>
    rw [hkk] at hv hk
    have hv : v = walkI l a kind := hv
    subst hv
    refine fn_of lv49 Try.func49 rfl rfl (by kernel_rfl) rfl ?_
    refine .inl ⟨_, _, rfl, c1, rfl, ?_⟩
    repeat' (first | refine bsplit_true ?_ | refine bsplit_false ?_)
    refine .inl ⟨_, _, rfl, c2, rfl, ?_⟩
    refine bsplit_of_false hk ?_
    refine .inl ⟨_, _, rfl, c3, rfl, ?_⟩
    exact ⟨⟨rfl, rfl, trivial⟩, rfl⟩
end Go.Proofs.Ytojaakpnpdnbhaa.L

/- Codes of bytes, as arguments read as data. -/
set_option linter.unusedVariables false
set_option linter.unusedSimpArgs false
set_option maxRecDepth 100000
namespace Go.Proofs.Ytojaakpnpdnbhaa.L
open Go.RowKit Go.ChangeShapes Go.WideShapes Go.ChangeAt
abbrev okByte (n : Int) : Prop := (Lit.int .u8 n).wf = true
theorem okByte_le {n : Int} (h : okByte n) : 0 ≤ n ∧ n ≤ 255 := by
  have h' : IntKind.u8.min ≤ n ∧ n ≤ IntKind.u8.max := by simpa [okByte, Lit.wf] using h
  have e : IntKind.u8.min = 0 := by decide
  have e2 : IntKind.u8.max = 255 := by decide
  rw [e, e2] at h'
  exact h'
abbrev okBytes (l : List Int) : Prop := l.length * 1 ≤ reachBytes ∧ ∀ x ∈ l, okByte x
theorem okBytes.code {l : List Int} (h : okBytes l) (hb : decide ((l.length : Int) > 1048576) = false) : okCode l := ⟨by simp at hb; omega, fun x hx => okByte_le (h.2 x hx)⟩
theorem reads_uint8 : ReadsT Try.prog 5 1 Int (fun n => [.v (.int .u8 n)]) okByte := ReadsT.int Try.underlying5 (by kernel_rfl)
theorem reads_bytes : ReadsT Try.prog 76 1 (List Int) (fun l => [bytesD l]) okBytes := ReadsT.slice reads_uint8 Try.underlying76 (by kernel_rfl) (by decide) 0 (by kernel_rfl)
end Go.Proofs.Ytojaakpnpdnbhaa.L

/- The law FnLayouts answers true. -/
set_option linter.unusedVariables false
set_option linter.unusedSimpArgs false
set_option maxRecDepth 100000
namespace Go.Proofs.Ytojaakpnpdnbhaa.L
open Go.RowKit Go.ChangeShapes Go.WideShapes Go.ChangeAt
theorem walk_own {x : PolM} (h : polFault x = 0) {g i : Nat} (hg : g < x.own.length) (hi : i < (x.own.getD g []).length * 8) : walkI (pagesP x g) i 4 = (0, ((plI (x.own.getD g []) i : Nat) : Int)) := by
  have hin := own_in h g hg
  obtain ⟨p, hp1, e1, e2, e3⟩ := plI_eq (own := x.own.getD g []) (i := i) hi hin.2.2
  have hpp := hin.2.2 p hp1
  have h64 : inR (i : Int) 0 63 = true := inR_iff.2 ⟨by omega, by omega⟩
  have hpa : pageAt (pagesP x g) i = ⟨p, 7⟩ := by
    unfold pageAt
    rw [tdiv8 i (by omega), Int.toNat_natCast, pages_own (fun m hm => ⟨((pol_R h).1 m hm).af.1, ((pol_R h).1 m hm).at_.1⟩) (i / 8) (by rw [Int.toNat_natCast]; omega) (by rw [Int.toNat_natCast]; exact hin.2.1), Int.toNat_natCast, e1]
  have hw : walkP (pagesP x g) i 4 = ((plI (x.own.getD g []) i : Nat) : Int) := by
    unfold walkP
    rw [h64, hpa]
    have b1 : decide (p < 0) = false := decide_eq_false (by omega)
    have b2 : (andI 7 4 == 0) = false := by decide
    show (bif !true then (-1 : Int) else bif decide (p < 0) || (andI 7 4 == 0) then -1 else IntKind.i64.wrap (IntKind.i64.wrap (p * 8) + Int.tmod (i : Int) 8)) = _
    rw [b1, b2, tmod8, wrap_i64 (p * 8) (by omega) (by omega)]
    show IntKind.i64.wrap (p * 8 + ((i % 8 : Nat) : Int)) = _
    rw [wrap_i64 _ (by omega) (by omega), e2]
    omega
  unfold walkI
  rw [hw, if_neg (by omega)]
theorem load_R {x : PolM} {imgs : List (List Int)} (h : (loadImages x imgs).1 = 0) : ImgR x imgs ∧ imgs.length = x.own.length ∧ loadImages x imgs = (0, allM x.own imgs x.own.length) := by
  unfold loadImages at h ⊢
  by_cases hp : polFault x = 0
  · rw [if_pos hp] at h ⊢
    by_cases hc : imgCode x.own imgs = 0
    · rw [if_pos hc]
      unfold imgCode at hc
      split at hc
      · rename_i hl
        split at hc
        · exact absurd hc (by decide)
        · rename_i ht
          have ht : tooLong x.own imgs x.own.length = false := Bool.eq_false_iff.2 ht
          exact ⟨⟨hp, fun g hg => tooLong_at ht hg⟩, hl, rfl⟩
      · exact absurd hc (by decide)
    · rw [if_neg hc] at h
      exact absurd h hc
  · rw [if_neg hp] at h
    exact absurd h hp
theorem words_R {x : PolM} (h : polFault x = 0) {M : List Int} (hl : M.length = 192) (hf : memFault M = 0) {g : Nat} (hg : g < x.own.length) : wordsOf x M g = (0, wordsL M (x.own.getD g [])) := by
  have ha : askedG x g = 0 := by
    unfold askedG
    rw [if_pos h]
    have : guestB x.own.length g = true := inR_iff.2 ⟨by omega, by omega⟩
    rw [this]; rfl
  unfold wordsOf
  rw [if_pos ha]
  have hw : wholeB M = true := by
    unfold wholeB
    rw [hf, hl]; rfl
  rw [hw, Int.toNat_natCast]; rfl
set_option maxHeartbeats 6400000 in
theorem c_laws_FnLayouts (c : List Int) (ho : okBytes c) : FnOK Try.prog 8 [.d (bytesD c)] (rb true) := by
  have hrb := reach_eq
  have hlen : c.length * 1 ≤ 140737488351232 := by have := ho.1; omega
  refine fn_of lv8 Try.func8 rfl rfl (by kernel_rfl) rfl ?_
  refine .inl ⟨_, _, rfl, c_laws_lwBig c (by omega), rfl, ?_⟩
  refine bsplit_intro (fun h => ?_) (fun h => ?_)
  · exact ⟨⟨rfl, trivial⟩, rfl⟩
  have hc := ho.code h
  refine .inr ⟨rfl, use_mutS ⟨_, _, _, _, rfl, rfl, c_spec_DrawLoadImages c hc, rfl, ?_⟩⟩
  rintro _ _ _ ⟨x, imgs, hx, hl5, h41, rfl, rfl, rfl⟩
  refine ⟨rfl, ?_⟩
  have hs := hx.small
  have hI2 : ∀ i, i < imgs.length → (imgs.getD i []).length ≤ 1048576 := fun i hi => Nat.le_trans (h41 i hi) (by decide)
  have cl := c_impl_LoadImages x hs imgs (by omega) hI2
  have cs := c_spec_LoadImages x hs imgs (by omega) hI2
  have cb := c_impl_BuildMaps x hs
  by_cases hr : (loadImages x imgs).1 = 0
  rotate_left
  · obtain ⟨L, hL⟩ : ∃ L, L = loadImages x imgs := ⟨_, rfl⟩
    rw [← hL] at cl cs hr
    obtain ⟨lc, lm⟩ := L
    have hr : ¬ lc = 0 := hr
    by_cases hpf : polFault x = 0
    · have hb : buildMaps x = (0, mapsL x) := by unfold buildMaps; rw [if_pos hpf]
      rw [hb] at cb
      have cm := c_impl_MapsSafe x hs (mapsL x) (maps_safe hpf)
      refine .inl ⟨_, _, rfl, cl, rfl, ?_⟩
      refine .inl ⟨_, _, rfl, cb, rfl, ?_⟩
      repeat' (first | refine bsplit_true ?_ | refine bsplit_false ?_)
      refine .inl ⟨_, _, rfl, cm, rfl, ?_⟩
      repeat' (first | refine bsplit_true ?_ | refine bsplit_false ?_)
      refine bsplit_of_true (by simpa using hr) ?_
      refine .inl ⟨_, _, rfl, cs, rfl, ?_⟩
      refine chk_intro (by kernel_rfl) ?_
      exact ⟨⟨congrArg Value.bool (by simp), trivial⟩, rfl⟩
    · have hb : buildMaps x = (polFault x, []) := by unfold buildMaps; rw [if_neg hpf]
      rw [hb] at cb
      have d0 : decide (polFault x = 0) = false := decide_eq_false hpf
      refine .inl ⟨_, _, rfl, cl, rfl, ?_⟩
      refine .inl ⟨_, _, rfl, cb, rfl, ?_⟩
      repeat' (first | refine bsplit_of_false d0 ?_ | refine bsplit_false ?_)
      refine bsplit_of_true (by simpa using hr) ?_
      refine .inl ⟨_, _, rfl, cs, rfl, ?_⟩
      refine chk_intro (by kernel_rfl) ?_
      exact ⟨⟨congrArg Value.bool (by simp), trivial⟩, rfl⟩
  obtain ⟨hR, hli, hld⟩ := load_R hr
  have hpf := hR.pf
  have hb : buildMaps x = (0, mapsL x) := by unfold buildMaps; rw [if_pos hpf]
  rw [hb] at cb
  rw [hld] at cl
  have cm := c_impl_MapsSafe x hs (mapsL x) (maps_safe hpf)
  have hMl : (allM x.own imgs x.own.length).length = 192 := allM_len _ _ _
  have hMf : memFault (allM x.own imgs x.own.length) = 0 := mem_right _ _ _
  have hat := fun g i (hg : g < x.own.length) hi => load_at hR (g := g) (i := i) hg hi x.own.length hg (Nat.le_refl _)
  have hfree := fun v k (h0 : 0 ≤ v) (h1 : v ≤ 23) (h2 : ownerP x.own v < 0) (h3 : k < 8) => load_free hR h0 h1 h2 h3 x.own.length (Nat.le_refl _)
  obtain ⟨M, hM⟩ : ∃ M, M = allM x.own imgs x.own.length := ⟨_, rfl⟩
  rw [← hM] at cl hMl hMf hat hfree
  have hmlen : (mapsL x).length = x.own.length := by simp [mapsL]
  have cw := fun g : Int => c_impl_WordsOf x hs M (by omega) g
  have cf := c_impl_FreePages x hs
  have hfp : freePages x = (0, freeR (freeB x) 24 0) := by unfold freePages; rw [if_pos hpf]
  rw [hfp] at cf
  have hfl : (freeR (freeB x) 24 0).length ≤ 24 := freeR_len _ _ _
  have hfm : ∀ i, i < (freeR (freeB x) 24 0).length → 0 ≤ (freeR (freeB x) 24 0).getD i 0 ∧ (freeR (freeB x) 24 0).getD i 0 ≤ 23 ∧ ownerP x.own ((freeR (freeB x) 24 0).getD i 0) < 0 := fun i hi => by
    have hm := freeR_mem (show (freeR (freeB x) 24 0).getD i 0 ∈ freeR (freeB x) 24 0 by rw [getD_at _ hi]; exact List.getElem_mem hi)
    obtain ⟨m1, m2, m3⟩ := hm
    unfold freeB at m3
    rw [Bool.and_eq_true] at m3
    exact ⟨m1, by omega, of_decide_eq_true m3.1⟩
  obtain ⟨F, hF⟩ : ∃ F, F = freeR (freeB x) 24 0 := ⟨_, rfl⟩
  rw [← hF] at cf hfl hfm
  have cmf := c_impl_MemoryFault M (by omega)
  rw [hMf] at cmf
  refine .inl ⟨_, _, rfl, cl, rfl, ?_⟩
  refine .inl ⟨_, _, rfl, cb, rfl, ?_⟩
  repeat' (first | refine bsplit_true ?_ | refine bsplit_false ?_)
  refine .inl ⟨_, _, rfl, cm, rfl, ?_⟩
  repeat' (first | refine bsplit_true ?_ | refine bsplit_false ?_)
  refine ⟨{ g : Nat // g ≤ imgs.length }, fun g => ⟨frL [(3, .ptr 20 0), (4, .d (owns imgs)), (5, .ptr 21 0), (6, .ptr 22 0), (7, di g.1)], hpL [(20, .box 38 [.d (owns x.own), .d (lanes x.lns), .d (bells x.bls), .d (slots x.pln)]), (21, .box 32 [di 0, .d (ints M)]), (22, .box 71 [di 0, .d (pgss (mapsL x))])], 96, 0⟩, fun g => imgs.length - g.1, ⟨0, by omega⟩,
    le_of [(20, 8352), (21, 12384), (22, 16448)] rfl rfl rfl rfl (tellHp_box rfl rfl ⟨DLe.refl _, DLe.refl _, DLe.refl _, DLe.refl _, trivial⟩ (tellHp_box rfl rfl ⟨rfl, tellV_frz rfl rfl rfl (DLe.refl _), trivial⟩ (tellHp_box rfl rfl ⟨rfl, tellV_frzN rfl rfl rfl (DLe.refl _), trivial⟩ tellHp_nil))) (tellFr_ptr rfl rfl (tellFr_d rfl (DLe.refl _) (tellFr_ptr rfl rfl (tellFr_ptr rfl rfl (tellFr_v rfl rfl trivial))))), ?_⟩
  rintro ⟨g, hg⟩
  by_cases hg2 : g < imgs.length
  · have hgo : g < x.own.length := by omega
    have hwg := wrap1 hg2 (by omega)
    have cwg := cw g
    have hwr := words_R hpf hMl hMf hgo
    rw [hwr] at cwg
    have hin := own_in hpf g hgo
    have hgl := hR.len g hgo
    have hps : ∀ p ∈ x.own.getD g [], 0 ≤ p ∧ (p + 1) * 8 ≤ M.length := fun p hp => by have := hin.2.2 p hp; omega
    have hWl := wordsL_len M (x.own.getD g []) hps
    have hWa := words_at M (x.own.getD g []) hps
    obtain ⟨W, hW⟩ : ∃ W, W = wordsL M (x.own.getD g []) := ⟨_, rfl⟩
    rw [← hW] at cwg hWl hWa
    have hmg : (mapsL x).getD g [] = pagesP x g := mapsL_get x g hgo
    have hpl : (pagesP x g).length = 8 := pagesP_len (by rw [Int.toNat_natCast]; exact hin.2.1)
    have hwl : IntKind.i64.wrap (8 * ((x.own.getD g []).length : Int)) = 8 * ((x.own.getD g []).length : Int) := wrap_i64 _ (by omega) (by omega)
    refine bsplit_of_true (decide_eq_true (show (g : Int) < (imgs.length : Int) by omega)) ?_
    refine .inl ⟨_, _, rfl, cwg, rfl, ?_⟩
    repeat' (first | refine bsplit_true ?_ | refine bsplit_false ?_)
    refine ask_intro ⟨by omega, by show (g : Int) < (x.own.length : Int); omega, rfl⟩ ?_
    repeat' (first | refine bsplit_true ?_ | refine bsplit_false ?_)
    refine chk_intro (by kernel_rfl) ?_
    refine bsplit_of_false (show ((W.length : Int) != IntKind.i64.wrap (8 * ((x.own.getD g []).length : Int))) = false by rw [hwl, hWl]; simp) ?_
    refine ⟨{ i : Nat // i ≤ (imgs.getD g []).length }, fun i => ⟨frL [(3, .ptr 20 0), (4, .d (owns imgs)), (5, .ptr 21 0), (6, .ptr 22 0), (7, di g), (8, .ptr 23 0), (9, di i.1)], hpL [(20, .box 38 [.d (owns x.own), .d (lanes x.lns), .d (bells x.bls), .d (slots x.pln)]), (21, .box 32 [di 0, .d (ints M)]), (22, .box 71 [di 0, .d (pgss (mapsL x))]), (23, .box 48 [di 0, .d (ints W)])], 96, 0⟩, fun i => (imgs.getD g []).length - i.1, ⟨0, by omega⟩,
      le_of [(20, 20), (21, 21), (22, 22), (23, 4352)] rfl rfl rfl rfl (tellHp_box rfl rfl ⟨DLe.refl _, DLe.refl _, DLe.refl _, DLe.refl _, trivial⟩ (tellHp_box rfl rfl ⟨rfl, DLe.refl _, trivial⟩ (tellHp_box rfl rfl ⟨rfl, DLe.refl _, trivial⟩ (tellHp_box rfl rfl ⟨rfl, tellV_frz rfl rfl rfl (DLe.refl _), trivial⟩ tellHp_nil)))) (tellFr_ptr rfl rfl (tellFr_d rfl (DLe.refl _) (tellFr_ptr rfl rfl (tellFr_ptr rfl rfl (tellFr_v rfl rfl (tellFr_ptr rfl rfl (tellFr_v rfl rfl trivial))))))), ?_⟩
    rintro ⟨i, hi⟩
    have h41g := h41 g hg2
    by_cases hi2 : i < (imgs.getD g []).length
    · have hwi := wrap1 hi2 (by omega)
      have cwk := c_impl_WalkPages ((mapsL x).getD g []) (by rw [hmg, hpl]; decide) i 4
      rw [hmg, if_pos (maps_right hpf hgo), show kindOk 4 = true by decide, cond_true, walk_own hpf hgo (by omega)] at cwk
      obtain ⟨p, hp1, e1, e2, e3⟩ := plI_eq (own := x.own.getD g []) (i := i) (by omega) hin.2.2
      have hv1 := hat g i hgo hi2
      have hv2 := hWa i (by omega)
      rw [e1, ← e2, hv1] at hv2
      have cwr := c_impl_WrapWord ((imgs.getD g []).getD i 0)
      obtain ⟨q, hq⟩ : ∃ q, q = plI (x.own.getD g []) i := ⟨_, rfl⟩
      rw [← hq] at hv1 cwk e2
      rw [← hmg] at cwk
      refine ask_intro ⟨by omega, by show (g : Int) < (imgs.length : Int); omega, rfl⟩ ?_
      refine bsplit_of_true (decide_eq_true (show (i : Int) < ((imgs.getD g []).length : Int) by omega)) ?_
      refine ask_intro ⟨by omega, by show (g : Int) < ((mapsL x).length : Int); omega, rfl⟩ ?_
      refine .inl ⟨_, _, rfl, cwk, rfl, ?_⟩
      repeat' (first | refine bsplit_true ?_ | refine bsplit_false ?_)
      refine ask_intro ⟨by show (0 : Int) ≤ (q : Int); omega, by show (q : Int) < (M.length : Int); omega, rfl⟩ ?_
      repeat' (first | refine bsplit_true ?_ | refine bsplit_false ?_)
      refine ask_intro ⟨by omega, by show (g : Int) < (imgs.length : Int); omega, rfl⟩ ?_
      repeat' (first | refine bsplit_true ?_ | refine bsplit_false ?_)
      refine ask_intro ⟨by omega, by show (i : Int) < ((imgs.getD g []).length : Int); omega, rfl⟩ ?_
      repeat' (first | refine bsplit_true ?_ | refine bsplit_false ?_)
      have d1 : (M.getD q 0 != wrapW ((imgs.getD g []).getD i 0)) = false := by rw [hv1]; simp
      have d2 : (W.getD i 0 != wrapW ((imgs.getD g []).getD i 0)) = false := by rw [hv2]; simp
      refine .inl ⟨_, _, rfl, cwr, rfl, ?_⟩
      repeat' (first | refine bsplit_of_false d1 ?_ | refine bsplit_true ?_ | refine bsplit_false ?_)
      refine ask_intro ⟨by omega, by show (i : Int) < (W.length : Int); omega, rfl⟩ ?_
      repeat' (first | refine bsplit_true ?_ | refine bsplit_false ?_)
      refine ask_intro ⟨by omega, by show (g : Int) < (imgs.length : Int); omega, rfl⟩ ?_
      repeat' (first | refine bsplit_true ?_ | refine bsplit_false ?_)
      refine ask_intro ⟨by omega, by show (i : Int) < ((imgs.getD g []).length : Int); omega, rfl⟩ ?_
      repeat' (first | refine bsplit_true ?_ | refine bsplit_false ?_)
      refine .inl ⟨_, _, rfl, cwr, rfl, ?_⟩
      repeat' (first | refine bsplit_of_false d1 ?_ | refine bsplit_true ?_ | refine bsplit_false ?_)
      refine chk_intro (by kernel_rfl) ?_
      refine bsplit_of_false d2 ?_
      exact ⟨⟨i + 1, by omega⟩, le_of [(20, 20), (21, 21), (22, 22), (23, 23)] rfl rfl rfl rfl (tellHp_box rfl rfl ⟨DLe.refl _, DLe.refl _, DLe.refl _, DLe.refl _, trivial⟩ (tellHp_box rfl rfl ⟨rfl, DLe.refl _, trivial⟩ (tellHp_box rfl rfl ⟨rfl, DLe.refl _, trivial⟩ (tellHp_box rfl rfl ⟨rfl, DLe.refl _, trivial⟩ tellHp_nil)))) (tellFr_ptr rfl rfl (tellFr_d rfl (DLe.refl _) (tellFr_ptr rfl rfl (tellFr_ptr rfl rfl (tellFr_v rfl rfl (tellFr_ptr rfl rfl (tellFr_v rfl (congrArg (Value.int .i64) hwi) trivial))))))), by show (imgs.getD g []).length - (i + 1) < (imgs.getD g []).length - i; omega⟩
    · obtain rfl : i = (imgs.getD g []).length := by omega
      refine ask_intro ⟨by omega, by show (g : Int) < (imgs.length : Int); omega, rfl⟩ ?_
      refine bsplit_of_false (decide_eq_false (show ¬ ((imgs.getD g []).length : Int) < ((imgs.getD g []).length : Int) by omega)) ?_
      exact ⟨⟨g + 1, by omega⟩, le_of [(20, 20), (21, 21), (22, 22)] rfl rfl rfl rfl (tellHp_box rfl rfl ⟨DLe.refl _, DLe.refl _, DLe.refl _, DLe.refl _, trivial⟩ (tellHp_box rfl rfl ⟨rfl, DLe.refl _, trivial⟩ (tellHp_box rfl rfl ⟨rfl, DLe.refl _, trivial⟩ tellHp_nil))) (tellFr_ptr rfl rfl (tellFr_d rfl (DLe.refl _) (tellFr_ptr rfl rfl (tellFr_ptr rfl rfl (tellFr_v rfl (congrArg (Value.int .i64) hwg) trivial))))), by show imgs.length - (g + 1) < imgs.length - g; omega⟩
  obtain rfl : g = imgs.length := by omega
  refine bsplit_of_false (decide_eq_false (show ¬ (imgs.length : Int) < (imgs.length : Int) by omega)) ?_
  refine .inl ⟨_, _, rfl, cf, rfl, ?_⟩
  refine ⟨{ i : Nat // i ≤ F.length }, fun i => ⟨frL [(5, .ptr 21 0), (11, .d (ints F)), (12, di i.1)], hpL [(21, .box 32 [di 0, .d (ints M)])], 96, 0⟩, fun i => F.length - i.1, ⟨0, by omega⟩,
    le_of [(21, 21)] rfl rfl rfl rfl (tellHp_box rfl rfl ⟨rfl, DLe.refl _, trivial⟩ tellHp_nil) (tellFr_ptr rfl rfl (tellFr_x rfl (tellV_frz rfl rfl rfl (DLe.refl _)) (tellFr_v rfl rfl trivial))), ?_⟩
  rintro ⟨i, hi⟩
  by_cases hi2 : i < F.length
  · have hwi := wrap1 hi2 (by omega)
    obtain ⟨f0, f1, f2⟩ := hfm i hi2
    refine bsplit_of_true (decide_eq_true (show (i : Int) < (F.length : Int) by omega)) ?_
    refine ⟨{ k : Nat // k ≤ 8 }, fun k => ⟨frL [(5, .ptr 21 0), (11, .d (ints F)), (12, di i), (13, di k.1)], hpL [(21, .box 32 [di 0, .d (ints M)])], 96, 0⟩, fun k => 8 - k.1, ⟨0, by omega⟩,
      le_of [(21, 21)] rfl rfl rfl rfl (tellHp_box rfl rfl ⟨rfl, DLe.refl _, trivial⟩ tellHp_nil) (tellFr_ptr rfl rfl (tellFr_d rfl (DLe.refl _) (tellFr_v rfl rfl (tellFr_v rfl rfl trivial)))), ?_⟩
    rintro ⟨k, hk⟩
    by_cases hk2 : k < 8
    · have hwk := wrap1 hk2 (by omega)
      have hv := hfree _ k f0 f1 f2 hk2
      have hw8 : IntKind.i64.wrap (IntKind.i64.wrap (F.getD i 0 * 8) + (k : Int)) = F.getD i 0 * 8 + (k : Int) := by
        rw [wrap_i64 (F.getD i 0 * 8) (by omega) (by omega)]
        exact wrap_i64 _ (by omega) (by omega)
      have d1 : (M.getD (IntKind.i64.wrap (IntKind.i64.wrap (F.getD i 0 * 8) + (k : Int))).toNat 0 != 0) = false := by rw [hw8, hv]; rfl
      refine bsplit_of_true (decide_eq_true (show (k : Int) < 8 by omega)) ?_
      refine ask_intro ⟨by omega, by show (i : Int) < (F.length : Int); omega, rfl⟩ ?_
      refine ask_intro ⟨by show 0 ≤ IntKind.i64.wrap (IntKind.i64.wrap (F.getD i 0 * 8) + (k : Int)); omega, by show IntKind.i64.wrap (IntKind.i64.wrap (F.getD i 0 * 8) + (k : Int)) < (M.length : Int); omega, rfl⟩ ?_
      refine chk_intro (by kernel_rfl) ?_
      refine bsplit_of_false d1 ?_
      exact ⟨⟨k + 1, by omega⟩, le_of [(21, 21)] rfl rfl rfl rfl (tellHp_box rfl rfl ⟨rfl, DLe.refl _, trivial⟩ tellHp_nil) (tellFr_ptr rfl rfl (tellFr_d rfl (DLe.refl _) (tellFr_v rfl rfl (tellFr_v rfl (congrArg (Value.int .i64) hwk) trivial)))), by show 8 - (k + 1) < 8 - k; omega⟩
    · obtain rfl : k = 8 := by omega
      refine bsplit_of_false (decide_eq_false (show ¬ (8 : Int) < 8 by omega)) ?_
      exact ⟨⟨i + 1, by omega⟩, le_of [(21, 21)] rfl rfl rfl rfl (tellHp_box rfl rfl ⟨rfl, DLe.refl _, trivial⟩ tellHp_nil) (tellFr_ptr rfl rfl (tellFr_d rfl (DLe.refl _) (tellFr_v rfl (congrArg (Value.int .i64) hwi) trivial))), by show F.length - (i + 1) < F.length - i; omega⟩
  obtain rfl : i = F.length := by omega
  refine bsplit_of_false (decide_eq_false (show ¬ (F.length : Int) < (F.length : Int) by omega)) ?_
  refine .inl ⟨_, _, rfl, cmf, rfl, ?_⟩
  exact ⟨⟨rfl, trivial⟩, rfl⟩
end Go.Proofs.Ytojaakpnpdnbhaa.L

/- The law FnLayouts answers true at every input that its statement lets in. -/
set_option linter.unusedVariables false
set_option maxRecDepth 100000
namespace Go.Proofs.Ytojaakpnpdnbhaa.L.FnLayouts
open Go.RowKit Go.ChangeShapes Go.WideShapes Go.ChangeAt
theorem lifted (os : Os) (started : os.Started) (H : Type) (enc : TypeId × Value → H) :
    ReturnsInHanded {} Try.checked os 8 .any (Rows.fnLayoutsSpec.pre6 enc Try.prog Try.f8 Rows.fnLayoutsRow.domain false) (Rows.fnLayoutsSpec.post enc Try.prog Try.f8 false true false false) := by
  refine returnsInHanded_of_change_sized (C := Try.checked) own started (by kernel_rfl) Try.func8
    (ChangeSpec.witness6 (enc := enc) (C := Try.checked) false ⟨#[], #[.slice none 0 0], []⟩ 8 (by kernel_rfl) (by kernel_rfl) (by kernel_rfl) (by kernel_rfl)) ?_
  intro W base args ds gs before hval0 hW hcnd hsz0 _
  have hsz : (DataW.weightsEach Try.prog (Try.f8.params.toList ++ Rows.fnLayoutsSpec.plain.varTypes Try.prog) (ds ++ gs)).all (· ≤ reachBytes) = true := hsz0
  have hval : ∀ (j : Nat) t v, Try.f8.params[j]? = some t → args[j]? = some v → Value.okWide Try.prog W .any base t v := hval0
  have hW' := hW
  obtain ⟨p, q, hA0, hV, rfl, hfz, hnd⟩ := hW
  have hA : DataW.TrodAll enc Try.prog W 0 (fun _ => true) true Try.f8.params.toList args.toList ds p := hA0
  rw [Try.params8] at hA hval hsz
  obtain ⟨v0, vs0, d0, ds0, p0, q0, hargs, rfl, rfl, h0, r0⟩ := trodAll_cons hA
  obtain ⟨rfl, rfl, rfl⟩ := trodAll_nil r0
  obtain rfl : args = #[v0] := by cases args; simp_all
  obtain ⟨rfl, rfl⟩ := trodVars_none hV
  have hsm : ∀ k ∈ DataW.weightsEach Try.prog ([76] ++ Rows.fnLayoutsSpec.plain.varTypes Try.prog) ([d0] ++ []), k ≤ reachBytes := fun k hk => by simpa using List.all_eq_true.1 hsz k hk
  have k0 := h0
  have lt0 : ∀ x ∈ p0, x.block < W.heap.size := by obtain ⟨m, hm⟩ := k0; exact DataW.trod_lt m _ _ _ hm
  have c0 : v0.cells = #[v0] := by have z := okWide_slice Try.underlying76 (hval 0 76 v0 rfl rfl); (first | (obtain ⟨_, rfl⟩ := z; rfl) | (obtain ⟨_, _, _, rfl⟩ := z; rfl))
  obtain ⟨m0, hm0, hvr0⟩ := reads_bytes.one c0 h0 (fun k hk => hsm k (DataW.weights_mem_each (j := 0) rfl rfl k hk))
  refine ((c_laws_FnLayouts m0 hm0).calls W (Mem W) [v0] ⟨fun b hb => hb, fun g k zs h => by cases h⟩ rfl (fun j hj => ?_)).mono fun e W' ⟨v, he, bel, hrr⟩ => ?_
  · match j, hj with
    | 0, _ => exact hvr0
    | j + 1, hj => exact absurd hj (by simp)
  · obtain ⟨us, J, hl, rfl, hJ, hok, _, _⟩ := hrr.ex
    have h1 := hok 0 _ rfl
    have h2 : RV.val us (rb true) = .bool true := h1
    rw [h2] at he
    subst he
    exact ⟨_, rfl, _, _, _, [], _, [], hW', trodAll_mk1 (shut_bool Try.underlying4 _), (trodAll_cons_mk (Below.trod laidOut (by kernel_rfl) (of_decide_eq_true (by kernel_rfl)) k0 bel lt0) trodAll_mk0), rfl, bel.frame _, fun h => by cases h⟩
theorem over : Rows.fnLayoutsRow.holds Try.pinned (OpenSpec.ofChange Rows.fnLayoutsSpec) :=
  OpenClaim.holds_of_wide 8 Try.f8 rfl rfl rfl rfl rfl rfl rfl ⟨rfl, rfl, rfl, rfl, rfl⟩ rfl rfl rfl rfl rfl (by kernel_rfl) Try.func8 (by kernel_rfl)
    (of_decide_eq_true (by kernel_rfl)) (by unfold Func.isWrapper; first | (rw [if_pos (by decide +kernel)]; kernel_rfl) | (rw [if_neg (by decide +kernel)]; exact ⟨rfl, rfl⟩))
    (fun os started H enc _ => lifted os started H enc)
end Go.Proofs.Ytojaakpnpdnbhaa.L.FnLayouts
namespace Go.Proofs.Ytojaakpnpdnbhaa
theorem fnLayouts_holds : Rows.FnLayoutsSaid := L.FnLayouts.over
#print axioms fnLayouts_holds
end Go.Proofs.Ytojaakpnpdnbhaa
