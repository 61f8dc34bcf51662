/- The law FnTurns answers true at every input that its statement lets in. -/
import Derived.Test.YtdpahckfibnagaaMc
import Derived.Test.YtdpahckfibnagaaRows
import Derived.Test.YtdpahckfibnagaaZ1
/- Policies that are drawn: contracts. -/
set_option linter.unusedVariables false
set_option linter.unusedSimpArgs false
set_option maxRecDepth 100000
namespace Go.Proofs.Ytdpahckfibnagaa.L
open Go.RowKit
abbrev nil4 : List LV := [.d (.v (.slice none 0 0)), .d (.v (.slice none 0 0)), .d (.v (.slice none 0 0)), .d (.v (.slice none 0 0))]
abbrev rows4 (a b c d : Nat) : List LV := [.row a, .row b, .row c, .row d]
/-- a policy as it is drawn -/
structure PolM.drawn (x : PolM) : Prop where
  own : 1 ≤ x.own.length
  own3 : x.own.length ≤ 3
  ins : ∀ i, i < x.own.length → 1 ≤ (x.own.getD i []).length ∧ (x.own.getD i []).length ≤ 3
  lns : x.lns.length ≤ 3
  bls : x.bls.length ≤ 2
  pln : 1 ≤ x.pln.length
  pln4 : x.pln.length ≤ 4
theorem PolM.drawn.small {x : PolM} (h : x.drawn) : x.small := by
  obtain ⟨h1, h2, h3, h4, h5, h6, h7⟩ := h
  exact ⟨by omega, fun i hi => by have := h3 i hi; omega, by omega, by omega, by omega⟩
def insOK (l : List (List Int)) : Prop := ∀ i, i < l.length → 1 ≤ (l.getD i []).length ∧ (l.getD i []).length ≤ 3
theorem insOK_snoc {l : List (List Int)} {m : List Int} (h : insOK l) (h1 : 1 ≤ m.length) (h2 : m.length ≤ 3) : insOK (l ++ [m]) := by
  intro i hi
  simp only [List.length_append, List.length_cons, List.length_nil] at hi
  by_cases e : i < l.length
  · have := h i e
    simp only [List.getD] at this ⊢
    rw [List.getElem?_append_left e]
    exact this
  · have e : i = l.length := by omega
    subst e
    simp only [List.getD]
    rw [List.getElem?_append_right (Nat.le_refl _)]
    simp
    omega
theorem app_in (l : List (List Int)) (m : List Int) (j : Nat) (hj : j < l.length) : lenF l j = lenF (l ++ [m]) j ∧ ∀ q, inF l j q = inF (l ++ [m]) j q := by
  have e : (l ++ [m]).getD j [] = l.getD j [] := by simp only [List.getD]; rw [List.getElem?_append_left hj]
  exact ⟨by show (l.getD j []).length = ((l ++ [m]).getD j []).length; rw [e], fun q => by show intsF (l.getD j []) q = intsF ((l ++ [m]).getD j []) q; rw [e]⟩
theorem app_last (l : List (List Int)) (m : List Int) : (l ++ [m]).getD l.length [] = m := by simp [List.getD]
theorem LVLe.dptr {xs ys : List D} (hl : xs.length = ys.length) (h : ∀ j, j < xs.length → DLe (xs.getD j (.v undef)) (ys.getD j (.v undef))) : LVLe (.dptr xs) (.dptr ys) := fun W F v hv => by
  cases hv with
  | dptr vs hs hI hv hr => exact .dptr vs hs hI (fun j hj => hv j (by omega)) (fun j hj => h j (by omega) _ _ _ (hr j (by omega)))
theorem LVLe.dptr4 {a b c d a' b' c' d' : D} (h1 : DLe a a') (h2 : DLe b b') (h3 : DLe c c') (h4 : DLe d d') : LVLe (.dptr [a, b, c, d]) (.dptr [a', b', c', d']) := LVLe.dptr rfl fun j hj => match j, hj with
  | 0, _ => h1
  | 1, _ => h2
  | 2, _ => h3
  | 3, _ => h4
  | j + 4, hj => absurd hj (by simp)
theorem app_lane (lns : List LaneM) (z : LaneM) (g0 : Nat → List D) (q : Nat) (hq : q < lns.length + 1) : upto (0 + lns.length) (upto 0 g0 (lanesF lns)) (fun i => ([laneD z] : List (List D)).getD i []) q = lanesF (lns ++ [z]) q := by
  unfold upto
  by_cases h : q < lns.length
  · rw [if_pos (by omega), if_neg (Nat.not_lt_zero _)]
    show laneD (lns.getD (q - 0) _) = laneD ((lns ++ [z]).getD q _)
    simp only [List.getD, Nat.sub_zero]
    rw [List.getElem?_append_left h]
  · rw [if_neg (by omega)]
    obtain rfl : q = lns.length := by omega
    rw [Nat.zero_add, Nat.sub_self]
    show laneD z = laneD ((lns ++ [z]).getD lns.length _)
    simp [List.getD]
theorem app_bell (l : List BellM) (z : BellM) (q : Nat) (hq : q < l.length + 1) : upto l.length (bellsF l) (fun i => ([bellD z] : List (List D)).getD i []) q = bellsF (l ++ [z]) q := by
  unfold upto
  by_cases h : q < l.length
  · rw [if_pos h]
    show bellD (l.getD q _) = bellD ((l ++ [z]).getD q _)
    simp only [List.getD]
    rw [List.getElem?_append_left h]
  · rw [if_neg h]
    obtain rfl : q = l.length := by omega
    rw [Nat.sub_self]
    show bellD z = bellD ((l ++ [z]).getD l.length _)
    simp [List.getD]
theorem app_slot (l : List SlotM) (z : SlotM) (q : Nat) (hq : q < l.length + 1) : upto l.length (slotsF l) (fun i => ([slotD z] : List (List D)).getD i []) q = slotsF (l ++ [z]) q := by
  unfold upto
  by_cases h : q < l.length
  · rw [if_pos h]
    show slotD (l.getD q _) = slotD ((l ++ [z]).getD q _)
    simp only [List.getD]
    rw [List.getElem?_append_left h]
  · rw [if_neg h]
    obtain rfl : q = l.length := by omega
    rw [Nat.sub_self]
    show slotD z = slotD ((l ++ [z]).getD l.length _)
    simp [List.getD]
set_option maxHeartbeats 3200000 in
theorem c_spec_l6Policy (c : List Int) (hc : okCode c) (p : Int) (hp : 0 ≤ p) (hp2 : p ≤ 1099511627) : MutS Try.prog 134 [.ptr 0 0] 1 [(0, srcBox c p)]
    (fun lv m' hp1 => ∃ (x : PolM) (q : Int), x.drawn ∧ p ≤ q ∧ q ≤ p + 60 ∧ lv = .agg (rows4 1 2 3 4) ∧ m' = 5 ∧ hp1 = [(0, srcBox c q), (1, nestE x.own), (2, rowLane x.lns), (3, rowBell x.bls), (4, rowSlot x.pln)]) := by
  have h4 := nx_in (c := c) hc (p := p) (n := 3) (by omega) (by omega)
  have h5 := pk_mem (c := c) hc (p := p + 1) (l := [2, 3, 3, 1]) (by omega) (by simp)
  have h5 : 1 ≤ pk c (p + 1) [2, 3, 3, 1] ∧ pk c (p + 1) [2, 3, 3, 1] ≤ 3 := by
    revert h5
    generalize pk c (p + 1) [2, 3, 3, 1] = v
    intro h5
    simp at h5
    omega
  refine mutS_fn_of lv134 Try.func134 rfl rfl (by kernel_rfl) rfl ?_
  repeat' (first | refine bsplit_true ?_ | refine bsplit_false ?_ | (refine .inr ⟨rfl, use_mut ⟨?_, ?_, ?_, ?_, ?_, ?_, ?_, ?_, ?_, ?_, ?_⟩⟩; rotate_left 6; exact rfl; exact rfl; (first | (refine c_spec_l1Next c hc _ _ ?_ ?_ <;> (first | omega | (dsimp only; omega))) | (refine pick3 c hc _ _ _ _ ?_ ?_ <;> (first | omega | (dsimp only; omega))) | (refine pick4 c hc _ _ _ _ _ ?_ ?_ <;> (first | omega | (dsimp only; omega))) | (refine pick2 c hc _ _ _ ?_ ?_ <;> (first | omega | (dsimp only; omega))) | (refine pick6 c hc _ _ _ _ _ _ _ ?_ ?_ <;> (first | omega | (dsimp only; omega))) | (refine pick7 c hc _ _ _ _ _ _ _ _ ?_ ?_ <;> (first | omega | (dsimp only; omega))) | (refine pick5 c hc _ _ _ _ _ _ ?_ ?_ <;> (first | omega | (dsimp only; omega)))); rfl))
  refine ⟨{ x : List (List Int) × Int × Int × Int // insOK x.1 ∧ 0 ≤ x.2.2.1 ∧ 1 ≤ (x.1.length : Int) + x.2.2.1 ∧ (x.1.length : Int) + x.2.2.1 ≤ 3 ∧ p ≤ x.2.2.2 ∧ x.2.2.2 ≤ p + 2 + x.1.length }, fun x => ⟨frL [(0, .ptr 0 0), (2, .ptr 10 0), (3, .ptr 11 0), (4, di x.1.2.1), (5, di x.1.2.2.1)], hpL [(0, srcBox c x.1.2.2.2), (10, .box 34 nil4), (11, .box 34 (rows4 12 13 14 15)), (12, nestE x.1.1), (13, rowLane []), (14, rowBell []), (15, rowSlot [])], 100, 1⟩, fun x => x.1.2.2.1.toNat,
    ⟨([], nx c p 3, pk c (p + 1) [2, 3, 3, 1], p + 1 + 1), fun i hi => absurd hi (Nat.not_lt_zero _), by show 0 ≤ pk c (p + 1) [2, 3, 3, 1]; omega, by show 1 ≤ ((0 : Nat) : Int) + pk c (p + 1) [2, 3, 3, 1]; omega, by show ((0 : Nat) : Int) + pk c (p + 1) [2, 3, 3, 1] ≤ 3; omega, by show p ≤ p + 1 + 1; omega, by show p + 1 + 1 ≤ p + 2 + ((0 : Nat) : Int); omega⟩,
    Le.trans (nilBox (k := 4129) (i := 0) (t := 34) (cs := nil4) rfl rfl (nestE []) rfl rfl) (Le.trans (nilBox (k := 4129) (i := 1) (t := 34) (cs := [.row 16385, .d (.v (.slice none 0 0)), .d (.v (.slice none 0 0)), .d (.v (.slice none 0 0))]) rfl rfl (rowLane []) rfl rfl) (Le.trans (nilBox (k := 4129) (i := 2) (t := 34) (cs := [.row 16385, .row 16386, .d (.v (.slice none 0 0)), .d (.v (.slice none 0 0))]) rfl rfl (rowBell []) rfl rfl) (Le.trans (nilBox (k := 4129) (i := 3) (t := 34) (cs := [.row 16385, .row 16386, .row 16387, .d (.v (.slice none 0 0))]) rfl rfl (rowSlot []) rfl rfl)
    (le_of [(10, 1), (11, 4129), (12, 16385), (13, 16386), (14, 16387), (15, 16388)] rfl rfl rfl rfl (tellHp_box rfl rfl ⟨DLe.refl _, rfl, trivial⟩ (tellHp_box rfl rfl ⟨rfl, rfl, rfl, rfl, trivial⟩ (tellHp_box rfl rfl ⟨rfl, rfl, rfl, rfl, trivial⟩ (tellHp_nest rfl rfl rfl (fun i hi => absurd hi (Nat.not_lt_zero _)) (tellHp_row rfl rfl rfl (fun j hj => rfl) (tellHp_row rfl rfl rfl (fun j hj => rfl) (tellHp_row rfl rfl rfl (fun j hj => rfl) tellHp_nil)))))))
      (tellFr_ptr rfl rfl (tellFr_ptr rfl rfl (tellFr_ptr rfl rfl (tellFr_v rfl rfl (tellFr_v rfl rfl trivial))))))))), ?_⟩
  rintro ⟨⟨l, pg, g, q⟩, hI, hg0, hg1, hg3, hq1, hq2⟩
  simp only at hI hg0 hg1 hg3 hq1 hq2
  by_cases hg : 0 < g
  · have hn := nx_in (c := c) hc (p := q) (n := 3) (by omega) (by omega)
    have hw : IntKind.i64.wrap (1 + nx c q 3) = 1 + nx c q 3 := wrap_i64 _ (by omega) (by omega)
    have hwg : IntKind.i64.wrap (g - 1) = g - 1 := wrap_i64 _ (by omega) (by omega)
    refine bsplit_of_true (decide_eq_true (show g > 0 by omega)) ?_
    repeat' (first | refine bsplit_true ?_ | refine bsplit_false ?_ | (refine .inr ⟨rfl, use_mut ⟨?_, ?_, ?_, ?_, ?_, ?_, ?_, ?_, ?_, ?_, ?_⟩⟩; rotate_left 6; exact rfl; exact rfl; (first | (refine c_spec_l1Next c hc _ _ ?_ ?_ <;> (first | omega | (dsimp only; omega))) | (refine pick3 c hc _ _ _ _ ?_ ?_ <;> (first | omega | (dsimp only; omega))) | (refine pick4 c hc _ _ _ _ _ ?_ ?_ <;> (first | omega | (dsimp only; omega))) | (refine pick2 c hc _ _ _ ?_ ?_ <;> (first | omega | (dsimp only; omega))) | (refine pick6 c hc _ _ _ _ _ _ _ ?_ ?_ <;> (first | omega | (dsimp only; omega))) | (refine pick7 c hc _ _ _ _ _ _ _ _ ?_ ?_ <;> (first | omega | (dsimp only; omega))) | (refine pick5 c hc _ _ _ _ _ _ ?_ ?_ <;> (first | omega | (dsimp only; omega)))); rfl))
    refine ⟨{ x : List Int × Int × Int // 0 ≤ x.2.2 ∧ 1 ≤ (x.1.length : Int) + x.2.2 ∧ (x.1.length : Int) + x.2.2 ≤ 3 }, fun x => ⟨frL [(0, .ptr 0 0), (2, .ptr 10 0), (3, .ptr 11 0), (4, di x.1.2.1), (5, di g), (6, .row 16), (7, di x.1.2.2)], hpL [(0, srcBox c (q + 1)), (10, .box 34 nil4), (11, .box 34 (rows4 12 13 14 15)), (12, nestE l), (13, rowLane []), (14, rowBell []), (15, rowSlot []), (16, rowE x.1.1)], 100, 1⟩, fun x => x.1.2.2.toNat,
      ⟨([], pg, 1 + nx c q 3), by show 0 ≤ 1 + nx c q 3; omega, by show 1 ≤ ((0 : Nat) : Int) + (1 + nx c q 3); omega, by show ((0 : Nat) : Int) + (1 + nx c q 3) ≤ 3; omega⟩,
      le_of [(10, 10), (11, 11), (12, 12), (13, 13), (14, 14), (15, 15), (16, 4196)] rfl rfl rfl rfl (tellHp_box rfl rfl ⟨DLe.refl _, rfl, trivial⟩ (tellHp_box rfl rfl ⟨rfl, rfl, rfl, rfl, trivial⟩ (tellHp_box rfl rfl ⟨rfl, rfl, rfl, rfl, trivial⟩ (tellHp_nest rfl rfl rfl (fun i hi => ⟨rfl, fun j hj => rfl⟩) (tellHp_row rfl rfl rfl (fun j hj => rfl) (tellHp_row rfl rfl rfl (fun j hj => rfl) (tellHp_row rfl rfl rfl (fun j hj => rfl) (tellHp_row rfl rfl rfl (fun j hj => absurd hj (Nat.not_lt_zero _)) tellHp_nil))))))))
        (tellFr_ptr rfl rfl (tellFr_ptr rfl rfl (tellFr_ptr rfl rfl (tellFr_v rfl rfl (tellFr_v rfl rfl (tellFr_row rfl rfl (tellFr_v rfl (congrArg (Value.int .i64) hw) trivial))))))), ?_⟩
    rintro ⟨⟨m, pg, k⟩, hk0, hk1, hk3⟩
    simp only at hk0 hk1 hk3
    by_cases hk : 0 < k
    · have hwk : IntKind.i64.wrap (k - 1) = k - 1 := wrap_i64 _ (by omega) (by omega)
      have hsl : (m ++ [pg]).length = m.length + 1 := by simp
      refine bsplit_of_true (decide_eq_true (show k > 0 by omega)) ?_
      refine ask_intro ⟨by show (m.length + 1) * 8 ≤ 140737488355328; omega, by show m.length + 1 ≤ 9223372036854775807; omega, fun q hq => ?_⟩ ?_
      · obtain rfl : q = 0 := by omega
        rfl
      exact ⟨⟨(m ++ [pg], IntKind.i64.wrap (pg + 1), k - 1), by show 0 ≤ k - 1; omega, by show 1 ≤ ((m ++ [pg]).length : Int) + (k - 1); omega, by show ((m ++ [pg]).length : Int) + (k - 1) ≤ 3; omega⟩,
        le_of [(10, 10), (11, 11), (12, 12), (13, 13), (14, 14), (15, 15), (16, 4292)] rfl rfl rfl rfl (tellHp_box rfl rfl ⟨DLe.refl _, rfl, trivial⟩ (tellHp_box rfl rfl ⟨rfl, rfl, rfl, rfl, trivial⟩ (tellHp_box rfl rfl ⟨rfl, rfl, rfl, rfl, trivial⟩ (tellHp_nest rfl rfl rfl (fun i hi => ⟨rfl, fun j hj => rfl⟩) (tellHp_row rfl rfl rfl (fun j hj => rfl) (tellHp_row rfl rfl rfl (fun j hj => rfl) (tellHp_row rfl rfl rfl (fun j hj => rfl) (tellHp_row rfl rfl hsl.symm (fun q hq => upto_snoc m _ _ rfl q hq) tellHp_nil))))))))
          (tellFr_ptr rfl rfl (tellFr_ptr rfl rfl (tellFr_ptr rfl rfl (tellFr_v rfl rfl (tellFr_v rfl rfl (tellFr_row rfl rfl (tellFr_v rfl (congrArg (Value.int .i64) hwk) trivial))))))), by show (k - 1).toNat < k.toNat; omega⟩
    · have hsl : (l ++ [m]).length = l.length + 1 := by simp
      have hm1 : 1 ≤ m.length := by omega
      have hm3 : m.length ≤ 3 := by omega
      have hl3 : l.length ≤ 3 := by omega
      refine bsplit_of_false (decide_eq_false (show ¬ k > 0 by omega)) ?_
      refine ask_intro trivial ?_
      refine ask_intro ⟨by show (l.length + 1) * 24 ≤ 140737488355328; omega, by show l.length + 1 ≤ 9223372036854775807; omega, trivial⟩ ?_
      refine ⟨⟨(l ++ [m], pg, g - 1, q + 1), insOK_snoc hI hm1 hm3, by show 0 ≤ g - 1; omega, by show 1 ≤ ((l ++ [m]).length : Int) + (g - 1); omega, by show ((l ++ [m]).length : Int) + (g - 1) ≤ 3; omega, by show p ≤ q + 1; omega, by show q + 1 ≤ p + 2 + ((l ++ [m]).length : Int); omega⟩,
        le_of [(10, 10), (11, 11), (12, 4324), (13, 13), (14, 14), (15, 15)] rfl rfl rfl rfl (tellHp_box rfl rfl ⟨DLe.refl _, rfl, trivial⟩ (tellHp_box rfl rfl ⟨rfl, rfl, rfl, rfl, trivial⟩ (tellHp_box rfl rfl ⟨rfl, rfl, rfl, rfl, trivial⟩ (tellHp_hole rfl rfl rfl rfl rfl hsl.symm ⟨?_, fun j hj => ?_⟩ (fun j hj hne => ⟨?_, fun u hu => ?_⟩) (tellHp_row rfl rfl rfl (fun j hj => rfl) (tellHp_row rfl rfl rfl (fun j hj => rfl) (tellHp_row rfl rfl rfl (fun j hj => rfl) tellHp_nil)))))))
          (tellFr_ptr rfl rfl (tellFr_ptr rfl rfl (tellFr_ptr rfl rfl (tellFr_v rfl rfl (tellFr_v rfl (congrArg (Value.int .i64) hwg) trivial))))), by show (g - 1).toNat < g.toNat; omega⟩
      · show m.length = ((l ++ [m]).getD l.length []).length
        rw [app_last]
      · show intsF m j = intsF ((l ++ [m]).getD l.length []) j
        rw [app_last]
      · have hj : j < l.length + 1 := hj
        have hne : j ≠ l.length := hne
        show (if j < l.length then lenF l j else 0) = _
        rw [if_pos (by omega)]
        exact (app_in l m j (by omega)).1
      · have hj : j < l.length + 1 := hj
        have hne : j ≠ l.length := hne
        show (if j < l.length then inF l j else fun _ => []) u = _
        rw [if_pos (by omega)]
        exact (app_in l m j (by omega)).2 u
  · have hl0 : 1 ≤ l.length := by omega
    have hl3 : l.length ≤ 3 := by omega
    refine bsplit_of_false (decide_eq_false (show ¬ g > 0 by omega)) ?_
    have hn4 := nx_in (c := c) hc (p := q) (n := 4) (by omega) (by omega)
    refine ask_intro trivial ?_
    repeat' (first | refine bsplit_true ?_ | refine bsplit_false ?_ | (refine .inr ⟨rfl, use_mut ⟨?_, ?_, ?_, ?_, ?_, ?_, ?_, ?_, ?_, ?_, ?_⟩⟩; rotate_left 6; exact rfl; exact rfl; (first | (refine c_spec_l1Next c hc _ _ ?_ ?_ <;> (first | omega | (dsimp only; omega))) | (refine pick3 c hc _ _ _ _ ?_ ?_ <;> (first | omega | (dsimp only; omega))) | (refine pick4 c hc _ _ _ _ _ ?_ ?_ <;> (first | omega | (dsimp only; omega))) | (refine pick2 c hc _ _ _ ?_ ?_ <;> (first | omega | (dsimp only; omega))) | (refine pick6 c hc _ _ _ _ _ _ _ ?_ ?_ <;> (first | omega | (dsimp only; omega))) | (refine pick7 c hc _ _ _ _ _ _ _ _ ?_ ?_ <;> (first | omega | (dsimp only; omega))) | (refine pick5 c hc _ _ _ _ _ _ ?_ ?_ <;> (first | omega | (dsimp only; omega)))); rfl))
    refine ⟨{ x : List LaneM × Int × Int × Int // 0 ≤ x.2.2.1 ∧ (x.1.length : Int) + x.2.2.1 ≤ 3 ∧ p ≤ x.2.2.2 ∧ x.2.2.2 + 4 * x.2.2.1 ≤ p + 18 }, fun x => ⟨frL [(0, .ptr 0 0), (2, .ptr 10 0), (3, .ptr 11 0), (4, di x.1.2.1), (8, di l.length), (9, di x.1.2.2.1)], hpL [(0, srcBox c x.1.2.2.2), (10, .box 34 nil4), (11, .box 34 (rows4 12 13 14 15)), (12, nestE l), (13, rowLane x.1.1), (14, rowBell []), (15, rowSlot [])], 100, 1⟩, fun x => x.1.2.2.1.toNat,
      ⟨([], pg, nx c q 4, q + 1), by show 0 ≤ nx c q 4; omega, by show ((0 : Nat) : Int) + nx c q 4 ≤ 3; omega, by show p ≤ q + 1; omega, by show q + 1 + 4 * nx c q 4 ≤ p + 18; omega⟩,
      le_of [(10, 10), (11, 11), (12, 12), (13, 13), (14, 14), (15, 15)] rfl rfl rfl rfl (tellHp_box rfl rfl ⟨DLe.refl _, rfl, trivial⟩ (tellHp_box rfl rfl ⟨rfl, rfl, rfl, rfl, trivial⟩ (tellHp_box rfl rfl ⟨rfl, rfl, rfl, rfl, trivial⟩ (tellHp_nest rfl rfl rfl (fun i hi => ⟨rfl, fun j hj => rfl⟩) (tellHp_row rfl rfl rfl (fun j hj => rfl) (tellHp_row rfl rfl rfl (fun j hj => rfl) (tellHp_row rfl rfl rfl (fun j hj => rfl) tellHp_nil)))))))
        (tellFr_ptr rfl rfl (tellFr_ptr rfl rfl (tellFr_ptr rfl rfl (tellFr_v rfl rfl (tellFr_v rfl rfl (tellFr_v rfl rfl trivial)))))), ?_⟩
    clear hn4
    rintro ⟨⟨lns, pg, k, q⟩, hk0, hk3, hq1, hq2⟩
    simp only at hk0 hk3 hq1 hq2
    by_cases hk : 0 < k
    · have hwk : IntKind.i64.wrap (k - 1) = k - 1 := wrap_i64 _ (by omega) (by omega)
      obtain ⟨z, hz⟩ : ∃ z : LaneM, z = ⟨nx c q l.length, nx c (q + 1) l.length, pg, IntKind.i64.wrap (5 + nx c (q + 1 + 1) 2), IntKind.i64.wrap (5 + nx c (q + 1 + 1 + 1) 2)⟩ := ⟨_, rfl⟩
      have hsl : (lns ++ [z]).length = lns.length + 1 := by simp
      have hx : PolM.small ⟨l, lns ++ [z], [], []⟩ := ⟨by show l.length * 24 ≤ 140737488355328; omega, fun i hi => by have := hI i hi; show (l.getD i []).length * 8 ≤ 140737488355328; omega, by show (lns ++ [z]).length * 40 ≤ 140737488355328; omega, by show (0 : Nat) * 16 ≤ 140737488355328; omega, by show (0 : Nat) * 16 ≤ 140737488355328; omega⟩
      have c1 := c_spec_l6Owns ⟨l, lns ++ [z], [], []⟩ hx
      have c2 := c_spec_l6Lanes ⟨l, lns ++ [z], [], []⟩ hx
      have hld := fun (g0 : Nat → List D) => app_lane lns z g0
      rw [hz] at hld
      have hle : ∀ g0, DLe (.l (0 + lns.length + 1) (upto (0 + lns.length) (upto 0 g0 (lanesF lns)) (fun i => ([laneD ⟨nx c q l.length, nx c (q + 1) l.length, pg, IntKind.i64.wrap (5 + nx c (q + 1 + 1) 2), IntKind.i64.wrap (5 + nx c (q + 1 + 1 + 1) 2)⟩] : List (List D)).getD i []))) (lanes (lns ++ [z])) := fun g0 => DLe.l (by rw [hsl]; omega) fun i hi => by rw [hz]; exact hld g0 i (by omega)
      have hld2 : ∀ (g0 : Nat → List D) (i : Nat), i < lns.length + 1 → upto (0 + lns.length) (upto 0 g0 (lanesF lns)) (fun i => ([laneD ⟨nx c q l.length, nx c (q + 1) l.length, pg, IntKind.i64.wrap (5 + nx c (q + 1 + 1) 2), IntKind.i64.wrap (5 + nx c (q + 1 + 1 + 1) 2)⟩] : List (List D)).getD i []) i = lanesF (lns ++ [z]) i := fun g0 i hi => by rw [hz]; exact hld g0 i hi
      obtain ⟨v1, hv1⟩ : ∃ v1, v1 = ownBad (PolM.own ⟨l, lns ++ [z], [], []⟩) := ⟨_, rfl⟩
      obtain ⟨v2, hv2⟩ : ∃ v2, v2 = lanesFault ⟨l, lns ++ [z], [], []⟩ := ⟨_, rfl⟩
      rw [← hv1] at c1
      rw [← hv2] at c2
      refine bsplit_of_true (decide_eq_true (show k > 0 by omega)) ?_
      refine ask_intro ⟨by show (0 + lns.length) * 40 ≤ 140737488355328; omega, by show 0 + lns.length ≤ 9223372036854775807; omega, fun i hi => rfl⟩ ?_
      repeat' (first | refine bsplit_true ?_ | refine bsplit_false ?_ | (refine .inr ⟨rfl, use_mut ⟨?_, ?_, ?_, ?_, ?_, ?_, ?_, ?_, ?_, ?_, ?_⟩⟩; rotate_left 6; exact rfl; exact rfl; (first | (refine c_spec_l1Next c hc _ _ ?_ ?_ <;> (first | omega | (dsimp only; omega))) | (refine pick3 c hc _ _ _ _ ?_ ?_ <;> (first | omega | (dsimp only; omega))) | (refine pick4 c hc _ _ _ _ _ ?_ ?_ <;> (first | omega | (dsimp only; omega))) | (refine pick2 c hc _ _ _ ?_ ?_ <;> (first | omega | (dsimp only; omega))) | (refine pick6 c hc _ _ _ _ _ _ _ ?_ ?_ <;> (first | omega | (dsimp only; omega))) | (refine pick7 c hc _ _ _ _ _ _ _ _ ?_ ?_ <;> (first | omega | (dsimp only; omega))) | (refine pick5 c hc _ _ _ _ _ _ ?_ ?_ <;> (first | omega | (dsimp only; omega)))); rfl))
      refine ask_intro ⟨by show (0 + lns.length + 1) * 40 ≤ 140737488355328; omega, by show 0 + lns.length + 1 ≤ 9223372036854775807; omega, fun i hi => ?_⟩ ?_
      · obtain rfl : i = 0 := by omega
        rfl
      refine .inl ⟨_, _, rfl, c1.weak ⟨LVLe.dptr4 (DLe.refl _) (hle _) (DLe.refl _) (DLe.refl _), trivial⟩, rfl, ?_⟩
      refine bsplit_intro (fun e1 => ?_) (fun e1 => ?_)
      · refine .inl ⟨_, _, rfl, c2.weak ⟨LVLe.dptr4 (DLe.refl _) (hle _) (DLe.refl _) (DLe.refl _), trivial⟩, rfl, ?_⟩
        repeat' (first | refine bsplit_true ?_ | refine bsplit_false ?_)
        refine bsplit_intro (fun e2 => ?_) (fun e2 => ?_)
        · exact ⟨⟨(lns ++ [z], IntKind.i64.wrap (pg + 1), k - 1, q + 1 + 1 + 1 + 1), by show 0 ≤ k - 1; omega, by show ((lns ++ [z]).length : Int) + (k - 1) ≤ 3; omega, by show p ≤ q + 1 + 1 + 1 + 1; omega, by show q + 1 + 1 + 1 + 1 + 4 * (k - 1) ≤ p + 18; omega⟩,
            le_of [(10, 10), (11, 11), (12, 12), (13, 8900), (14, 14), (15, 15)] rfl rfl rfl rfl (tellHp_box rfl rfl ⟨DLe.refl _, rfl, trivial⟩ (tellHp_box rfl rfl ⟨rfl, rfl, rfl, rfl, trivial⟩ (tellHp_box rfl rfl ⟨rfl, rfl, rfl, rfl, trivial⟩ (tellHp_nest rfl rfl rfl (fun i hi => ⟨rfl, fun j hj => rfl⟩) (tellHp_row rfl rfl (show 0 + lns.length + 1 = (lns ++ [z]).length by rw [hsl]; omega) (fun i hi => hld2 _ i (by have hi : i < 0 + lns.length + 1 := hi; omega)) (tellHp_row rfl rfl rfl (fun j hj => rfl) (tellHp_row rfl rfl rfl (fun j hj => rfl) tellHp_nil)))))))
              (tellFr_ptr rfl rfl (tellFr_ptr rfl rfl (tellFr_ptr rfl rfl (tellFr_v rfl rfl (tellFr_v rfl rfl (tellFr_v rfl (congrArg (Value.int .i64) hwk) trivial)))))), by show (k - 1).toNat < k.toNat; omega⟩
        · exact ⟨⟨(lns, pg, k - 1, q + 1 + 1 + 1 + 1), by show 0 ≤ k - 1; omega, by show (lns.length : Int) + (k - 1) ≤ 3; omega, by show p ≤ q + 1 + 1 + 1 + 1; omega, by show q + 1 + 1 + 1 + 1 + 4 * (k - 1) ≤ p + 18; omega⟩,
          le_of [(10, 10), (11, 11), (12, 12), (13, 13), (14, 14), (15, 15)] rfl rfl rfl rfl (tellHp_box rfl rfl ⟨DLe.refl _, rfl, trivial⟩ (tellHp_box rfl rfl ⟨rfl, rfl, rfl, rfl, trivial⟩ (tellHp_box rfl rfl ⟨rfl, rfl, rfl, rfl, trivial⟩ (tellHp_nest rfl rfl rfl (fun i hi => ⟨rfl, fun j hj => rfl⟩) (tellHp_row rfl rfl rfl (fun j hj => rfl) (tellHp_row rfl rfl rfl (fun j hj => rfl) (tellHp_row rfl rfl rfl (fun j hj => rfl) tellHp_nil)))))))
            (tellFr_ptr rfl rfl (tellFr_ptr rfl rfl (tellFr_ptr rfl rfl (tellFr_v rfl rfl (tellFr_v rfl rfl (tellFr_v rfl (congrArg (Value.int .i64) hwk) trivial)))))), by show (k - 1).toNat < k.toNat; omega⟩
      · repeat' (first | refine bsplit_true ?_ | refine bsplit_false ?_)
        exact ⟨⟨(lns, pg, k - 1, q + 1 + 1 + 1 + 1), by show 0 ≤ k - 1; omega, by show (lns.length : Int) + (k - 1) ≤ 3; omega, by show p ≤ q + 1 + 1 + 1 + 1; omega, by show q + 1 + 1 + 1 + 1 + 4 * (k - 1) ≤ p + 18; omega⟩,
          le_of [(10, 10), (11, 11), (12, 12), (13, 13), (14, 14), (15, 15)] rfl rfl rfl rfl (tellHp_box rfl rfl ⟨DLe.refl _, rfl, trivial⟩ (tellHp_box rfl rfl ⟨rfl, rfl, rfl, rfl, trivial⟩ (tellHp_box rfl rfl ⟨rfl, rfl, rfl, rfl, trivial⟩ (tellHp_nest rfl rfl rfl (fun i hi => ⟨rfl, fun j hj => rfl⟩) (tellHp_row rfl rfl rfl (fun j hj => rfl) (tellHp_row rfl rfl rfl (fun j hj => rfl) (tellHp_row rfl rfl rfl (fun j hj => rfl) tellHp_nil)))))))
            (tellFr_ptr rfl rfl (tellFr_ptr rfl rfl (tellFr_ptr rfl rfl (tellFr_v rfl rfl (tellFr_v rfl rfl (tellFr_v rfl (congrArg (Value.int .i64) hwk) trivial)))))), by show (k - 1).toNat < k.toNat; omega⟩
    · refine bsplit_of_false (decide_eq_false (show ¬ k > 0 by omega)) ?_
      have hn3 := nx_in (c := c) hc (p := q) (n := 3) (by omega) (by omega)
      have hL3 : lns.length ≤ 3 := by omega
      repeat' (first | refine bsplit_true ?_ | refine bsplit_false ?_ | (refine .inr ⟨rfl, use_mut ⟨?_, ?_, ?_, ?_, ?_, ?_, ?_, ?_, ?_, ?_, ?_⟩⟩; rotate_left 6; exact rfl; exact rfl; (first | (refine c_spec_l1Next c hc _ _ ?_ ?_ <;> (first | omega | (dsimp only; omega))) | (refine pick3 c hc _ _ _ _ ?_ ?_ <;> (first | omega | (dsimp only; omega))) | (refine pick4 c hc _ _ _ _ _ ?_ ?_ <;> (first | omega | (dsimp only; omega))) | (refine pick2 c hc _ _ _ ?_ ?_ <;> (first | omega | (dsimp only; omega))) | (refine pick6 c hc _ _ _ _ _ _ _ ?_ ?_ <;> (first | omega | (dsimp only; omega))) | (refine pick7 c hc _ _ _ _ _ _ _ _ ?_ ?_ <;> (first | omega | (dsimp only; omega))) | (refine pick5 c hc _ _ _ _ _ _ ?_ ?_ <;> (first | omega | (dsimp only; omega)))); rfl))
      refine ⟨{ x : List BellM × Int × Int // 0 ≤ x.2.1 ∧ (x.1.length : Int) + x.2.1 ≤ 2 ∧ p ≤ x.2.2 ∧ x.2.2 + 2 * x.2.1 ≤ p + 23 }, fun x => ⟨frL [(0, .ptr 0 0), (2, .ptr 10 0), (3, .ptr 11 0), (8, di l.length), (11, di x.1.2.1)], hpL [(0, srcBox c x.1.2.2), (10, .box 34 nil4), (11, .box 34 (rows4 12 13 14 15)), (12, nestE l), (13, rowLane lns), (14, rowBell x.1.1), (15, rowSlot [])], 100, 1⟩, fun x => x.1.2.1.toNat,
        ⟨([], nx c q 3, q + 1), by show 0 ≤ nx c q 3; omega, by show ((0 : Nat) : Int) + nx c q 3 ≤ 2; omega, by show p ≤ q + 1; omega, by show q + 1 + 2 * nx c q 3 ≤ p + 23; omega⟩,
        le_of [(10, 10), (11, 11), (12, 12), (13, 13), (14, 14), (15, 15)] rfl rfl rfl rfl (tellHp_box rfl rfl ⟨DLe.refl _, rfl, trivial⟩ (tellHp_box rfl rfl ⟨rfl, rfl, rfl, rfl, trivial⟩ (tellHp_box rfl rfl ⟨rfl, rfl, rfl, rfl, trivial⟩ (tellHp_nest rfl rfl rfl (fun i hi => ⟨rfl, fun j hj => rfl⟩) (tellHp_row rfl rfl rfl (fun j hj => rfl) (tellHp_row rfl rfl rfl (fun j hj => rfl) (tellHp_row rfl rfl rfl (fun j hj => rfl) tellHp_nil)))))))
          (tellFr_ptr rfl rfl (tellFr_ptr rfl rfl (tellFr_ptr rfl rfl (tellFr_v rfl rfl (tellFr_v rfl rfl trivial))))), ?_⟩
      clear hn3
      rintro ⟨⟨bls, k, q⟩, hk0, hk3, hq1, hq2⟩
      simp only at hk0 hk3 hq1 hq2
      by_cases hk : 0 < k
      · have hwk : IntKind.i64.wrap (k - 1) = k - 1 := wrap_i64 _ (by omega) (by omega)
        have hz := app_bell bls ⟨nx c q l.length, nx c (q + 1) l.length⟩
        have hsl : (bls ++ [(⟨nx c q l.length, nx c (q + 1) l.length⟩ : BellM)]).length = bls.length + 1 := by simp
        refine bsplit_of_true (decide_eq_true (show k > 0 by omega)) ?_
        repeat' (first | refine bsplit_true ?_ | refine bsplit_false ?_ | (refine .inr ⟨rfl, use_mut ⟨?_, ?_, ?_, ?_, ?_, ?_, ?_, ?_, ?_, ?_, ?_⟩⟩; rotate_left 6; exact rfl; exact rfl; (first | (refine c_spec_l1Next c hc _ _ ?_ ?_ <;> (first | omega | (dsimp only; omega))) | (refine pick3 c hc _ _ _ _ ?_ ?_ <;> (first | omega | (dsimp only; omega))) | (refine pick4 c hc _ _ _ _ _ ?_ ?_ <;> (first | omega | (dsimp only; omega))) | (refine pick2 c hc _ _ _ ?_ ?_ <;> (first | omega | (dsimp only; omega))) | (refine pick6 c hc _ _ _ _ _ _ _ ?_ ?_ <;> (first | omega | (dsimp only; omega))) | (refine pick7 c hc _ _ _ _ _ _ _ _ ?_ ?_ <;> (first | omega | (dsimp only; omega))) | (refine pick5 c hc _ _ _ _ _ _ ?_ ?_ <;> (first | omega | (dsimp only; omega)))); rfl))
        refine bsplit_intro (fun e1 => ?_) (fun e1 => ?_)
        · repeat' (first | refine bsplit_true ?_ | refine bsplit_false ?_)
          refine bsplit_intro (fun e2 => ?_) (fun e2 => ?_)
          · refine ask_intro ⟨by show (bls.length + 1) * 16 ≤ 140737488355328; omega, by show bls.length + 1 ≤ 9223372036854775807; omega, fun i hi => ?_⟩ ?_
            · obtain rfl : i = 0 := by omega
              rfl
            exact ⟨⟨(bls ++ [(⟨nx c q l.length, nx c (q + 1) l.length⟩ : BellM)], k - 1, q + 1 + 1), by show 0 ≤ k - 1; omega, by show ((bls ++ [(⟨nx c q l.length, nx c (q + 1) l.length⟩ : BellM)]).length : Int) + (k - 1) ≤ 2; omega, by show p ≤ q + 1 + 1; omega, by show q + 1 + 1 + 2 * (k - 1) ≤ p + 23; omega⟩,
              le_of [(10, 10), (11, 11), (12, 12), (13, 13), (14, 12516), (15, 15)] rfl rfl rfl rfl (tellHp_box rfl rfl ⟨DLe.refl _, rfl, trivial⟩ (tellHp_box rfl rfl ⟨rfl, rfl, rfl, rfl, trivial⟩ (tellHp_box rfl rfl ⟨rfl, rfl, rfl, rfl, trivial⟩ (tellHp_nest rfl rfl rfl (fun i hi => ⟨rfl, fun j hj => rfl⟩) (tellHp_row rfl rfl rfl (fun j hj => rfl) (tellHp_row rfl rfl hsl.symm (fun i hi => hz i hi) (tellHp_row rfl rfl rfl (fun j hj => rfl) tellHp_nil)))))))
                (tellFr_ptr rfl rfl (tellFr_ptr rfl rfl (tellFr_ptr rfl rfl (tellFr_v rfl rfl (tellFr_v rfl (congrArg (Value.int .i64) hwk) trivial))))), by show (k - 1).toNat < k.toNat; omega⟩
          · exact ⟨⟨(bls, k - 1, q + 1 + 1), by show 0 ≤ k - 1; omega, by show (bls.length : Int) + (k - 1) ≤ 2; omega, by show p ≤ q + 1 + 1; omega, by show q + 1 + 1 + 2 * (k - 1) ≤ p + 23; omega⟩,
            le_of [(10, 10), (11, 11), (12, 12), (13, 13), (14, 14), (15, 15)] rfl rfl rfl rfl (tellHp_box rfl rfl ⟨DLe.refl _, rfl, trivial⟩ (tellHp_box rfl rfl ⟨rfl, rfl, rfl, rfl, trivial⟩ (tellHp_box rfl rfl ⟨rfl, rfl, rfl, rfl, trivial⟩ (tellHp_nest rfl rfl rfl (fun i hi => ⟨rfl, fun j hj => rfl⟩) (tellHp_row rfl rfl rfl (fun j hj => rfl) (tellHp_row rfl rfl rfl (fun j hj => rfl) (tellHp_row rfl rfl rfl (fun j hj => rfl) tellHp_nil)))))))
              (tellFr_ptr rfl rfl (tellFr_ptr rfl rfl (tellFr_ptr rfl rfl (tellFr_v rfl rfl (tellFr_v rfl (congrArg (Value.int .i64) hwk) trivial))))), by show (k - 1).toNat < k.toNat; omega⟩
        · repeat' (first | refine bsplit_true ?_ | refine bsplit_false ?_)
          exact ⟨⟨(bls, k - 1, q + 1 + 1), by show 0 ≤ k - 1; omega, by show (bls.length : Int) + (k - 1) ≤ 2; omega, by show p ≤ q + 1 + 1; omega, by show q + 1 + 1 + 2 * (k - 1) ≤ p + 23; omega⟩,
            le_of [(10, 10), (11, 11), (12, 12), (13, 13), (14, 14), (15, 15)] rfl rfl rfl rfl (tellHp_box rfl rfl ⟨DLe.refl _, rfl, trivial⟩ (tellHp_box rfl rfl ⟨rfl, rfl, rfl, rfl, trivial⟩ (tellHp_box rfl rfl ⟨rfl, rfl, rfl, rfl, trivial⟩ (tellHp_nest rfl rfl rfl (fun i hi => ⟨rfl, fun j hj => rfl⟩) (tellHp_row rfl rfl rfl (fun j hj => rfl) (tellHp_row rfl rfl rfl (fun j hj => rfl) (tellHp_row rfl rfl rfl (fun j hj => rfl) tellHp_nil)))))))
              (tellFr_ptr rfl rfl (tellFr_ptr rfl rfl (tellFr_ptr rfl rfl (tellFr_v rfl rfl (tellFr_v rfl (congrArg (Value.int .i64) hwk) trivial))))), by show (k - 1).toNat < k.toNat; omega⟩
      · refine bsplit_of_false (decide_eq_false (show ¬ k > 0 by omega)) ?_
        have hn4 := nx_in (c := c) hc (p := q) (n := 4) (by omega) (by omega)
        have hB2 : bls.length ≤ 2 := by omega
        have hw : IntKind.i64.wrap (1 + nx c q 4) = 1 + nx c q 4 := wrap_i64 _ (by omega) (by omega)
        repeat' (first | refine bsplit_true ?_ | refine bsplit_false ?_ | (refine .inr ⟨rfl, use_mut ⟨?_, ?_, ?_, ?_, ?_, ?_, ?_, ?_, ?_, ?_, ?_⟩⟩; rotate_left 6; exact rfl; exact rfl; (first | (refine c_spec_l1Next c hc _ _ ?_ ?_ <;> (first | omega | (dsimp only; omega))) | (refine pick3 c hc _ _ _ _ ?_ ?_ <;> (first | omega | (dsimp only; omega))) | (refine pick4 c hc _ _ _ _ _ ?_ ?_ <;> (first | omega | (dsimp only; omega))) | (refine pick2 c hc _ _ _ ?_ ?_ <;> (first | omega | (dsimp only; omega))) | (refine pick6 c hc _ _ _ _ _ _ _ ?_ ?_ <;> (first | omega | (dsimp only; omega))) | (refine pick7 c hc _ _ _ _ _ _ _ _ ?_ ?_ <;> (first | omega | (dsimp only; omega))) | (refine pick5 c hc _ _ _ _ _ _ ?_ ?_ <;> (first | omega | (dsimp only; omega)))); rfl))
        refine ⟨{ x : List SlotM × Int × Int // 0 ≤ x.2.1 ∧ 1 ≤ (x.1.length : Int) + x.2.1 ∧ (x.1.length : Int) + x.2.1 ≤ 4 ∧ p ≤ x.2.2 ∧ x.2.2 + 2 * x.2.1 ≤ p + 32 }, fun x => ⟨frL [(0, .ptr 0 0), (2, .ptr 10 0), (3, .ptr 11 0), (8, di l.length), (13, di x.1.2.1)], hpL [(0, srcBox c x.1.2.2), (10, .box 34 nil4), (11, .box 34 (rows4 12 13 14 15)), (12, nestE l), (13, rowLane lns), (14, rowBell bls), (15, rowSlot x.1.1)], 100, 1⟩, fun x => x.1.2.1.toNat,
          ⟨([], 1 + nx c q 4, q + 1), by show 0 ≤ 1 + nx c q 4; omega, by show 1 ≤ ((0 : Nat) : Int) + (1 + nx c q 4); omega, by show ((0 : Nat) : Int) + (1 + nx c q 4) ≤ 4; omega, by show p ≤ q + 1; omega, by show q + 1 + 2 * (1 + nx c q 4) ≤ p + 32; omega⟩,
          le_of [(10, 10), (11, 11), (12, 12), (13, 13), (14, 14), (15, 15)] rfl rfl rfl rfl (tellHp_box rfl rfl ⟨DLe.refl _, rfl, trivial⟩ (tellHp_box rfl rfl ⟨rfl, rfl, rfl, rfl, trivial⟩ (tellHp_box rfl rfl ⟨rfl, rfl, rfl, rfl, trivial⟩ (tellHp_nest rfl rfl rfl (fun i hi => ⟨rfl, fun j hj => rfl⟩) (tellHp_row rfl rfl rfl (fun j hj => rfl) (tellHp_row rfl rfl rfl (fun j hj => rfl) (tellHp_row rfl rfl rfl (fun j hj => rfl) tellHp_nil)))))))
            (tellFr_ptr rfl rfl (tellFr_ptr rfl rfl (tellFr_ptr rfl rfl (tellFr_v rfl rfl (tellFr_v rfl (congrArg (Value.int .i64) hw) trivial))))), ?_⟩
        clear hn4 hw
        rintro ⟨⟨pln, k, q⟩, hk0, hk1, hk3, hq1, hq2⟩
        simp only at hk0 hk1 hk3 hq1 hq2
        by_cases hk : 0 < k
        · have hwk : IntKind.i64.wrap (k - 1) = k - 1 := wrap_i64 _ (by omega) (by omega)
          have hz := app_slot pln ⟨nx c q l.length, IntKind.i64.wrap (1 + nx c (q + 1) 9)⟩
          have hsl : (pln ++ [(⟨nx c q l.length, IntKind.i64.wrap (1 + nx c (q + 1) 9)⟩ : SlotM)]).length = pln.length + 1 := by simp
          refine bsplit_of_true (decide_eq_true (show k > 0 by omega)) ?_
          refine .inr ⟨_, _, use_mut ⟨_, _, _, _, _, _, rfl, rfl, c_spec_l1Next c hc q l.length (by omega) (by omega), rfl, ⟨rfl, rfl⟩⟩, ?_⟩
          refine .inr ⟨_, _, use_mut ⟨_, _, _, _, _, _, rfl, rfl, c_spec_l1Next c hc (q + 1) 9 (by omega) (by omega), rfl, ⟨rfl, rfl⟩⟩, ?_⟩
          refine ask_intro ⟨by show (pln.length + 1) * 16 ≤ 140737488355328; omega, by show pln.length + 1 ≤ 9223372036854775807; omega, fun i hi => ?_⟩ ?_
          · obtain rfl : i = 0 := by omega
            rfl
          refine chk_intro (by kernel_rfl) ?_
          exact ⟨⟨(pln ++ [(⟨nx c q l.length, IntKind.i64.wrap (1 + nx c (q + 1) 9)⟩ : SlotM)], k - 1, q + 1 + 1), by show 0 ≤ k - 1; omega, by show 1 ≤ ((pln ++ [(⟨nx c q l.length, IntKind.i64.wrap (1 + nx c (q + 1) 9)⟩ : SlotM)]).length : Int) + (k - 1); omega, by show ((pln ++ [(⟨nx c q l.length, IntKind.i64.wrap (1 + nx c (q + 1) 9)⟩ : SlotM)]).length : Int) + (k - 1) ≤ 4; omega, by show p ≤ q + 1 + 1; omega, by show q + 1 + 1 + 2 * (k - 1) ≤ p + 32; omega⟩,
            le_of [(10, 10), (11, 11), (12, 12), (13, 13), (14, 14), (15, 4516)] rfl rfl rfl rfl (tellHp_box rfl rfl ⟨DLe.refl _, rfl, trivial⟩ (tellHp_box rfl rfl ⟨rfl, rfl, rfl, rfl, trivial⟩ (tellHp_box rfl rfl ⟨rfl, rfl, rfl, rfl, trivial⟩ (tellHp_nest rfl rfl rfl (fun i hi => ⟨rfl, fun j hj => rfl⟩) (tellHp_row rfl rfl rfl (fun j hj => rfl) (tellHp_row rfl rfl rfl (fun j hj => rfl) (tellHp_row rfl rfl hsl.symm (fun i hi => hz i hi) tellHp_nil)))))))
              (tellFr_ptr rfl rfl (tellFr_ptr rfl rfl (tellFr_ptr rfl rfl (tellFr_v rfl rfl (tellFr_v rfl (congrArg (Value.int .i64) hwk) trivial))))), by show (k - 1).toNat < k.toNat; omega⟩
        · refine bsplit_of_false (decide_eq_false (show ¬ k > 0 by omega)) ?_
          exact ⟨_, _, _, [(1, 12), (2, 13), (3, 14), (4, 15)], ⟨⟨l, lns, bls, pln⟩, q, ⟨hl0, hl3, hI, hL3, hB2, by show 1 ≤ pln.length; omega, by show pln.length ≤ 4; omega⟩, by omega, by omega, rfl, rfl, rfl⟩,
            chk_intro (by kernel_rfl) ⟨⟨rfl, rfl, rfl, rfl, trivial⟩, tellHp_box rfl rfl ⟨DLe.refl _, rfl, trivial⟩ (tellHp_nest rfl rfl rfl (fun i hi => ⟨rfl, fun j hj => rfl⟩) (tellHp_row rfl rfl rfl (fun j hj => rfl) (tellHp_row rfl rfl rfl (fun j hj => rfl) (tellHp_row rfl rfl rfl (fun j hj => rfl) tellHp_nil))))⟩⟩
end Go.Proofs.Ytdpahckfibnagaa.L

/- Policies that are drawn and bent: contracts. -/
set_option linter.unusedVariables false
set_option linter.unusedSimpArgs false
set_option maxRecDepth 100000
namespace Go.Proofs.Ytdpahckfibnagaa.L
open Go.RowKit
theorem DLe.l2 {n m : Nat} {f g : Nat → List D} (hn : n = m) (h : ∀ i, i < n → (f i).length = (g i).length ∧ ∀ j, j < (f i).length → DLe ((f i).getD j (.v undef)) ((g i).getD j (.v undef))) : DLe (.l n f) (.l m g) := by
  subst hn
  intro w I v hr
  cases hr with
  | nil f A c => exact .nil _ _ _
  | l n f a c sz vs h0 hc hI hs hz hl hv h1 hr =>
    exact .l n g a c sz vs h0 hc hI hs hz (fun i hi => by rw [← (h i hi).1]; exact hl i hi) hv h1 (fun i j hi hj => (h i hi).2 j (by rw [hl i hi]; exact hj) _ _ _ (hr i j hi hj))
theorem DLe.of_eq {x y : D} (h : x = y) : DLe x y := h ▸ DLe.refl _
structure PolM.few (x : PolM) : Prop where
  own : x.own.length ≤ 4
  ins : ∀ i, i < x.own.length → (x.own.getD i []).length ≤ 3
  lns : x.lns.length ≤ 5
  bls : x.bls.length ≤ 4
  pln : x.pln.length ≤ 9
theorem PolM.few.small {x : PolM} (h : x.few) : x.small := by
  obtain ⟨h1, h2, h3, h4, h5⟩ := h
  exact ⟨by omega, fun i hi => by have := h2 i hi; omega, by omega, by omega, by omega⟩
theorem PolM.drawn.few {x : PolM} (h : x.drawn) : x.few := by
  obtain ⟨h1, h2, h3, h4, h5, h6, h7⟩ := h
  exact ⟨by omega, fun i hi => (h3 i hi).2, by omega, by omega, by omega⟩
theorem nestEl_h1 {s : LS} {L : Nat → Nat} {f : Nat → Nat → List D} {k m : Nat} {e : TypeId} {sz : Nat} {h : Nat → List D} (hk : s.hp k = some (.row e sz m h)) (i : Nat) : nestEl s L f [(0, .hole k)] i = if i = 0 then [.l m h] else [.l (L i) (f i)] := by
  unfold nestEl nOf
  cases i with
  | zero =>
    show (match s.hp k with | some (.row _ _ m h) => [D.l m h] | _ => []) = _
    rw [hk]; rfl
  | succ i => rfl
theorem nestEl_h2 {s : LS} {L : Nat → Nat} {f : Nat → Nat → List D} {k m n1 : Nat} {e : TypeId} {sz : Nat} {h : Nat → List D} (hk : s.hp k = some (.row e sz m h)) (i : Nat) : nestEl s L f [(n1, .hole k), (0, .hole k)] i = if i = n1 ∨ i = 0 then [.l m h] else [.l (L i) (f i)] := by
  unfold nestEl nOf
  simp only [lookN]
  by_cases h1 : i = n1
  · subst h1
    rw [Nat.beq_refl, cond_true, if_pos (.inl rfl)]
    show (match s.hp k with | some (.row _ _ m h) => [D.l m h] | _ => []) = _
    rw [hk]
  · have e1 : Nat.beq i n1 = false := by rw [← Bool.not_eq_true, Nat.beq_eq]; exact h1
    rw [e1, cond_false]
    by_cases h2 : i = 0
    · subst h2
      rw [if_pos (.inr rfl)]
      show (match s.hp k with | some (.row _ _ m h) => [D.l m h] | _ => []) = _
      rw [hk]
    · have e2 : Nat.beq i 0 = false := by rw [← Bool.not_eq_true, Nat.beq_eq]; exact h2
      rw [e2, cond_false, if_neg (by omega)]
theorem nestEl_d1 {s : LS} {L : Nat → Nat} {f : Nat → Nat → List D} {x : D} (i : Nat) : nestEl s L f [(0, .dat x)] i = if i = 0 then [x] else [.l (L i) (f i)] := by
  unfold nestEl nOf
  cases i with
  | zero => rfl
  | succ i => rfl
theorem app_lane1 (l : List LaneM) (z : LaneM) (q : Nat) (hq : q < l.length + 1) : upto l.length (lanesF l) (fun i => ([laneD z] : List (List D)).getD i []) q = lanesF (l ++ [z]) q := by
  unfold upto
  by_cases h : q < l.length
  · rw [if_pos h]
    show laneD (l.getD q _) = laneD ((l ++ [z]).getD q _)
    simp only [List.getD]
    rw [List.getElem?_append_left h]
  · rw [if_neg h]
    obtain rfl : q = l.length := by omega
    rw [Nat.sub_self]
    show laneD z = laneD ((l ++ [z]).getD l.length _)
    simp [List.getD]
theorem app_bell2 (l : List BellM) (y z : BellM) (q : Nat) (hq : q < l.length + 2) : upto l.length (bellsF l) (fun i => ([bellD y, bellD z] : List (List D)).getD i []) q = bellsF (l ++ [y, z]) q := by
  unfold upto
  by_cases h : q < l.length
  · rw [if_pos h]
    show bellD (l.getD q _) = bellD ((l ++ [y, z]).getD q _)
    simp only [List.getD]
    rw [List.getElem?_append_left h]
  · rw [if_neg h]
    show _ = bellD ((l ++ [y, z]).getD q _)
    simp only [List.getD]
    rw [List.getElem?_append_right (by omega)]
    obtain e | e : q - l.length = 0 ∨ q - l.length = 1 := by omega
    · rw [e]; rfl
    · rw [e]; rfl
theorem set_slot {l : List SlotM} {z : SlotM} (hl : 0 < l.length) (j : Nat) : (if j = 0 then splice (slotsF l j) 0 (slotD z) else slotsF l j) = slotsF (l.set 0 z) j := by
  show _ = slotD ((l.set 0 z).getD j ⟨0, 0⟩)
  by_cases e : j = 0
  · subst e
    rw [if_pos rfl]
    simp [List.getD, splice]
    rw [List.getElem?_eq_getElem (by simpa using hl)]
    simp
  · rw [if_neg e]
    show slotD (l.getD j ⟨0, 0⟩) = _
    simp [List.getD, List.getElem?_set_ne (Ne.symm e)]
theorem rep_slot (j : Nat) (hj : j < 9) : [D.v (.int .i64 0), D.v (.int .i64 0)] = slotsF (List.replicate 9 ⟨0, 0⟩) j := by
  show _ = slotD (((List.replicate 9 (⟨0, 0⟩ : SlotM))[j]?).getD ⟨0, 0⟩)
  rw [List.getElem?_replicate, if_pos hj]
  rfl
theorem rep_lane (j : Nat) (hj : j < 5) : [D.v (.int .i64 0), D.v (.int .i64 0), D.v (.int .i64 0), D.v (.int .i64 0), D.v (.int .i64 0)] = lanesF (List.replicate 5 ⟨0, 0, 0, 0, 0⟩) j := by
  show _ = laneD (((List.replicate 5 (⟨0, 0, 0, 0, 0⟩ : LaneM))[j]?).getD ⟨0, 0, 0, 0, 0⟩)
  rw [List.getElem?_replicate, if_pos hj]
  rfl
theorem set_head (l : List (List Int)) (m : List Int) (i : Nat) (hl : 0 < l.length) : (l.set 0 m).getD i [] = if i = 0 then m else l.getD i [] := by
  by_cases e : i = 0
  · subst e; simp [List.getD, List.getElem?_set_self hl]
  · rw [if_neg e]; simp [List.getD, List.getElem?_set_ne (Ne.symm e)]
theorem own_c0 (ow : List (List Int)) (h0 : 1 ≤ ow.length) (h1 : 1 ≤ (ow.getD 0 []).length) (v : Int) (i : Nat) : (if i = 0 then [D.l (lenF ow 0) (fun j => if j = 0 then splice (inF ow 0 j) 0 [D.v (.int .i64 v)] else inF ow 0 j)] else [D.l (lenF ow i) (inF ow i)]) = ownsF (ow.set 0 ((ow.getD 0 []).set 0 v)) i := by
  show _ = [ints ((ow.set 0 ((ow.getD 0 []).set 0 v)).getD i [])]
  rw [set_head ow _ i (by omega)]
  by_cases e : i = 0
  · rw [if_pos e, if_pos e]
    have e1 : (fun j => if j = 0 then splice (inF ow 0 j) 0 [D.v (.int .i64 v)] else inF ow 0 j) = intsF ((ow.getD 0 []).set 0 v) := by
      funext j
      by_cases ej : j = 0
      · subst ej
        rw [if_pos rfl]
        show [D.v (.int .i64 v)] = [D.v (.int .i64 (((ow.getD 0 []).set 0 v).getD 0 0))]
        simp only [List.getD]
        rw [List.getElem?_set_self (by show 0 < (ow.getD 0 []).length; omega)]
        rfl
      · rw [if_neg ej]
        show [D.v (.int .i64 ((ow.getD 0 []).getD j 0))] = [D.v (.int .i64 (((ow.getD 0 []).set 0 v).getD j 0))]
        simp only [List.getD]
        rw [List.getElem?_set_ne (Ne.symm ej)]
    rw [e1]
    show [D.l (ow.getD 0 []).length _] = [D.l ((ow.getD 0 []).set 0 v).length _]
    rw [List.length_set]
  · rw [if_neg e, if_neg e]
theorem own_c1 (ow : List (List Int)) (h0 : 1 ≤ ow.length) (i : Nat) (hi : i < ow.length + 1) : (if i = ow.length ∨ i = 0 then [D.l (lenF ow 0) (inF ow 0)] else [D.l (uptoN ow.length (lenF ow) (fun _ => 0) i) (uptoN ow.length (inF ow) (fun _ _ => []) i)]) = ownsF (ow ++ [ow.getD 0 []]) i := by
  show _ = [ints ((ow ++ [ow.getD 0 []]).getD i [])]
  by_cases e : i = ow.length
  · rw [if_pos (.inl e), e, app_last]
  · have hl : (ow ++ [ow.getD 0 []]).getD i [] = ow.getD i [] := by simp only [List.getD]; rw [List.getElem?_append_left (by omega)]
    rw [hl]
    by_cases e2 : i = 0
    · rw [if_pos (.inr e2), e2]
    · rw [if_neg (by omega)]
      unfold uptoN
      rw [if_pos (by omega), if_pos (by omega)]
theorem own_c7 (ow : List (List Int)) (h0 : 1 ≤ ow.length) (i : Nat) : ((if i = 0 then [D.v (.slice none 0 0)] else [D.l (lenF ow i) (inF ow i)]) : List D).length = (ownsF (ow.set 0 []) i).length ∧ ∀ j, j < ((if i = 0 then [D.v (.slice none 0 0)] else [D.l (lenF ow i) (inF ow i)]) : List D).length → DLe (((if i = 0 then [D.v (.slice none 0 0)] else [D.l (lenF ow i) (inF ow i)]) : List D).getD j (.v undef)) ((ownsF (ow.set 0 []) i).getD j (.v undef)) := by
  have e1 : ownsF (ow.set 0 []) i = [ints (if i = 0 then [] else ow.getD i [])] := by
    show [ints ((ow.set 0 []).getD i [])] = _
    rw [set_head ow _ i (by omega)]
  rw [e1]
  by_cases e : i = 0
  · rw [if_pos e, if_pos e]
    refine ⟨rfl, fun j hj => ?_⟩
    obtain rfl : j = 0 := by simp at hj; omega
    exact DLe.nil _
  · rw [if_neg e, if_neg e]
    exact ⟨rfl, fun j hj => DLe.refl _⟩
theorem own_d7 (s : LS) (ow : List (List Int)) (h0 : 1 ≤ ow.length) : DLe (.l ow.length (nestEl s (lenF ow) (inF ow) [(0, .dat (.v (.slice none 0 0)))])) (owns (ow.set 0 [])) :=
  DLe.l2 (by rw [List.length_set]) fun i hi => by rw [nestEl_d1 i]; exact own_c7 ow h0 i
set_option maxHeartbeats 3200000 in
theorem c_spec_l6Bent (c : List Int) (hc : okCode c) (p : Int) (hp : 0 ≤ p) (hp2 : p ≤ 109951162) : MutS Try.prog 119 [.ptr 0 0] 1 [(0, srcBox c p)]
    (fun lv m' hp1 => ∃ (x : PolM) (q : Int), x.few ∧ p ≤ q ∧ q ≤ p + 70 ∧ lv = polLV x ∧ m' = 1 ∧ hp1 = [(0, srcBox c q)]) := by
  refine mutS_fn_of lv119 Try.func119 rfl rfl (by kernel_rfl) rfl ?_
  refine .inr ⟨rfl, use_mutS ⟨_, _, _, _, rfl, rfl, c_spec_l6Policy c hc p hp (by omega), rfl, ?_⟩⟩
  rintro _ _ _ ⟨x, q, hx, hq1, hq2, rfl, rfl, rfl⟩
  refine ⟨rfl, ?_⟩
  have hfew := hx.few
  obtain ⟨ow, ln, bl, pn⟩ := x
  have h0 : 1 ≤ ow.length := hx.own
  have h03 : ow.length ≤ 3 := hx.own3
  have h1 : 1 ≤ (ow.getD 0 []).length ∧ (ow.getD 0 []).length ≤ 3 := hx.ins 0 hx.own
  have h2 : 1 ≤ pn.length := hx.pln
  have hll : ln.length ≤ 3 := hx.lns
  have hbl : bl.length ≤ 2 := hx.bls
  have hpl : pn.length ≤ 4 := hx.pln4
  have hins : ∀ i, i < ow.length → (ow.getD i []).length ≤ 3 := fun i hi => (hx.ins i hi).2
  have hp0 : 0 ≤ q := by omega
  have hlen1 : (ow ++ [ow.getD 0 []]).length = ow.length + 1 := by simp
  have hins1 : ∀ i, i < (ow ++ [ow.getD 0 []]).length → ((ow ++ [ow.getD 0 []]).getD i []).length ≤ 3 := fun i hi => by
    by_cases e : i < ow.length
    · have e2 : (ow ++ [ow.getD 0 []]).getD i [] = ow.getD i [] := by simp only [List.getD]; rw [List.getElem?_append_left e]
      rw [e2]; exact hins i e
    · obtain rfl : i = ow.length := by omega
      rw [app_last]; exact h1.2
  have hset : ∀ m : List Int, m.length ≤ 3 → ∀ i, i < (ow.set 0 m).length → ((ow.set 0 m).getD i []).length ≤ 3 := fun m hm i hi => by
    rw [List.length_set] at hi
    rw [set_head ow m i (by omega)]
    split
    · exact hm
    · exact hins i hi
  repeat' (first | refine bsplit_true ?_ | refine bsplit_false ?_ | (refine .inr ⟨rfl, use_mut ⟨?_, ?_, ?_, ?_, ?_, ?_, ?_, ?_, ?_, ?_, ?_⟩⟩; rotate_left 6; exact rfl; exact rfl; (first | (refine c_spec_l1Next c hc _ _ ?_ ?_ <;> (first | omega | (dsimp only; omega))) | (refine pick3 c hc _ _ _ _ ?_ ?_ <;> (first | omega | (dsimp only; omega))) | (refine pick4 c hc _ _ _ _ _ ?_ ?_ <;> (first | omega | (dsimp only; omega))) | (refine pick2 c hc _ _ _ ?_ ?_ <;> (first | omega | (dsimp only; omega))) | (refine pick6 c hc _ _ _ _ _ _ _ ?_ ?_ <;> (first | omega | (dsimp only; omega))) | (refine pick7 c hc _ _ _ _ _ _ _ _ ?_ ?_ <;> (first | omega | (dsimp only; omega))) | (refine pick5 c hc _ _ _ _ _ _ ?_ ?_ <;> (first | omega | (dsimp only; omega)))); rfl))
  refine bsplit_intro (fun e => ?_) (fun _ => ?_)
  · refine ask_intro ⟨by omega, by show (0 : Int) < (ow.length : Int); omega⟩ ?_
    refine ask_intro (by show 0 < ow.length; omega) ?_
    refine .inr ⟨_, _, use_mut ⟨_, _, _, _, _, _, rfl, rfl, pick3 c hc (q + 1) (-1) 24 3 (by omega) (by omega), rfl, ⟨rfl, rfl⟩⟩, ?_⟩
    refine ask_intro ⟨by omega, by show (0 : Int) < ((ow.getD 0 []).length : Int); omega⟩ ?_
    refine ask_intro (by show 0 < (ow.getD 0 []).length; omega) ?_
    refine chk_intro (by kernel_rfl) ?_
    exact ⟨_, _, _, [], ⟨⟨ow.set 0 ((ow.getD 0 []).set 0 (pk c (q + 1) [-1, 24, 3])), ln, bl, pn⟩, q + 1 + 1, ⟨by show (ow.set 0 _).length ≤ 4; rw [List.length_set]; omega, hset _ (by rw [List.length_set]; exact h1.2), by show ln.length ≤ 5; omega, by show bl.length ≤ 4; omega, by show pn.length ≤ 9; omega⟩, by omega, by omega, rfl, rfl, rfl⟩, chk_intro (by kernel_rfl) ⟨⟨tellV_frzH rfl rfl rfl (DLe.l (by rw [List.length_set]) (fun i hi => Eq.trans (nestEl_h1 rfl i) (own_c0 ow h0 h1.1 _ i))), tellV_frz rfl rfl rfl (DLe.refl _), tellV_frz rfl rfl rfl (DLe.refl _), tellV_frz rfl rfl rfl (DLe.refl _), trivial⟩, tellHp_box rfl rfl ⟨DLe.refl _, rfl, trivial⟩ tellHp_nil⟩⟩
  refine bsplit_intro (fun e => ?_) (fun _ => ?_)
  · refine ask_intro ⟨by omega, by show (0 : Int) < (ow.length : Int); omega⟩ ?_
    refine ask_intro (by show 0 < ow.length; omega) ?_
    refine ask_intro trivial ?_
    refine ask_intro ⟨by show (ow.length + 1) * 24 ≤ 140737488355328; omega, by show ow.length + 1 ≤ 9223372036854775807; omega, by show 0 < ow.length; omega, trivial⟩ ?_
    refine chk_intro (by kernel_rfl) ?_
    exact ⟨_, _, _, [], ⟨⟨ow ++ [ow.getD 0 []], ln, bl, pn⟩, q + 1, ⟨by show (ow ++ _).length ≤ 4; omega, hins1, by show ln.length ≤ 5; omega, by show bl.length ≤ 4; omega, by show pn.length ≤ 9; omega⟩, by omega, by omega, rfl, rfl, rfl⟩, chk_intro (by kernel_rfl) ⟨⟨tellV_frzH rfl rfl rfl (DLe.l hlen1.symm (fun i hi => Eq.trans (nestEl_h2 rfl i) (own_c1 ow h0 i hi))), tellV_frz rfl rfl rfl (DLe.refl _), tellV_frz rfl rfl rfl (DLe.refl _), tellV_frz rfl rfl rfl (DLe.refl _), trivial⟩, tellHp_box rfl rfl ⟨DLe.refl _, rfl, trivial⟩ tellHp_nil⟩⟩
  refine bsplit_intro (fun e => ?_) (fun _ => ?_)
  · exact ⟨_, _, _, [], ⟨⟨[], ln, bl, pn⟩, q + 1, ⟨by show (0 : Nat) ≤ 4; omega, fun i hi => absurd hi (Nat.not_lt_zero _), hfew.lns, hfew.bls, hfew.pln⟩, by omega, by omega, rfl, rfl, rfl⟩, chk_intro (by kernel_rfl) ⟨⟨DLe.nil _, tellV_frz rfl rfl rfl (DLe.refl _), tellV_frz rfl rfl rfl (DLe.refl _), tellV_frz rfl rfl rfl (DLe.refl _), trivial⟩, tellHp_box rfl rfl ⟨DLe.refl _, rfl, trivial⟩ tellHp_nil⟩⟩
  refine bsplit_intro (fun e => ?_) (fun _ => ?_)
  · refine .inr ⟨_, _, use_mut ⟨_, _, _, _, _, _, rfl, rfl, c_spec_l1Next c hc (q + 1) 3 (by omega) (by omega), rfl, ⟨rfl, rfl⟩⟩, ?_⟩
    refine .inr ⟨_, _, use_mut ⟨_, _, _, _, _, _, rfl, rfl, c_spec_l1Next c hc (q + 1 + 1) 4 (by omega) (by omega), rfl, ⟨rfl, rfl⟩⟩, ?_⟩
    refine .inr ⟨_, _, use_mut ⟨_, _, _, _, _, _, rfl, rfl, pick3 c hc (q + 1 + 1 + 1) 0 23 24 (by omega) (by omega), rfl, ⟨rfl, rfl⟩⟩, ?_⟩
    refine .inr ⟨_, _, use_mut ⟨_, _, _, _, _, _, rfl, rfl, pick2 c hc (q + 1 + 1 + 1 + 1) 5 4 (by omega) (by omega), rfl, ⟨rfl, rfl⟩⟩, ?_⟩
    refine .inr ⟨_, _, use_mut ⟨_, _, _, _, _, _, rfl, rfl, pick3 c hc (q + 1 + 1 + 1 + 1 + 1) 6 7 5 (by omega) (by omega), rfl, ⟨rfl, rfl⟩⟩, ?_⟩
    refine ask_intro ⟨by show (ln.length + 1) * 40 ≤ 140737488355328; omega, by show ln.length + 1 ≤ 9223372036854775807; omega, fun i hi => ?_⟩ ?_
    · obtain rfl : i = 0 := by omega
      rfl
    refine chk_intro (by kernel_rfl) ?_
    exact ⟨_, _, _, [], ⟨⟨ow, ln ++ [(⟨nx c (q + 1) 3, nx c (q + 1 + 1) 4, pk c (q + 1 + 1 + 1) [0, 23, 24], pk c (q + 1 + 1 + 1 + 1) [5, 4], pk c (q + 1 + 1 + 1 + 1 + 1) [6, 7, 5]⟩ : LaneM)], bl, pn⟩, q + 1 + 1 + 1 + 1 + 1 + 1, ⟨hfew.own, hfew.ins, by show (ln ++ [_]).length ≤ 5; rw [List.length_append]; show ln.length + 1 ≤ 5; omega, hfew.bls, hfew.pln⟩, by omega, by omega, rfl, rfl, rfl⟩, chk_intro (by kernel_rfl) ⟨⟨tellV_frzN rfl rfl rfl (DLe.refl _), tellV_frz rfl rfl rfl (DLe.l (by rw [List.length_append]; rfl) (fun i hi => app_lane1 ln (⟨nx c (q + 1) 3, nx c (q + 1 + 1) 4, pk c (q + 1 + 1 + 1) [0, 23, 24], pk c (q + 1 + 1 + 1 + 1) [5, 4], pk c (q + 1 + 1 + 1 + 1 + 1) [6, 7, 5]⟩ : LaneM) i hi)), tellV_frz rfl rfl rfl (DLe.refl _), tellV_frz rfl rfl rfl (DLe.refl _), trivial⟩, tellHp_box rfl rfl ⟨DLe.refl _, rfl, trivial⟩ tellHp_nil⟩⟩
  refine bsplit_intro (fun e => ?_) (fun _ => ?_)
  · refine .inr ⟨_, _, use_mut ⟨_, _, _, _, _, _, rfl, rfl, c_spec_l1Next c hc (q + 1) 3 (by omega) (by omega), rfl, ⟨rfl, rfl⟩⟩, ?_⟩
    refine .inr ⟨_, _, use_mut ⟨_, _, _, _, _, _, rfl, rfl, c_spec_l1Next c hc (q + 1 + 1) 4 (by omega) (by omega), rfl, ⟨rfl, rfl⟩⟩, ?_⟩
    refine ask_intro ⟨by show (bl.length + 2) * 16 ≤ 140737488355328; omega, by show bl.length + 2 ≤ 9223372036854775807; omega, fun i hi => ?_⟩ ?_
    · obtain rfl | rfl : i = 0 ∨ i = 1 := by omega
      · rfl
      · rfl
    refine chk_intro (by kernel_rfl) ?_
    exact ⟨_, _, _, [], ⟨⟨ow, ln, bl ++ [(⟨nx c (q + 1) 3, nx c (q + 1 + 1) 4⟩ : BellM), ⟨0, 1⟩], pn⟩, q + 1 + 1 + 1, ⟨hfew.own, hfew.ins, hfew.lns, by show (bl ++ _).length ≤ 4; rw [List.length_append]; show bl.length + 2 ≤ 4; omega, hfew.pln⟩, by omega, by omega, rfl, rfl, rfl⟩, chk_intro (by kernel_rfl) ⟨⟨tellV_frzN rfl rfl rfl (DLe.refl _), tellV_frz rfl rfl rfl (DLe.refl _), tellV_frz rfl rfl rfl (DLe.l (by rw [List.length_append]; rfl) (fun i hi => app_bell2 bl (⟨nx c (q + 1) 3, nx c (q + 1 + 1) 4⟩ : BellM) ⟨0, 1⟩ i hi)), tellV_frz rfl rfl rfl (DLe.refl _), trivial⟩, tellHp_box rfl rfl ⟨DLe.refl _, rfl, trivial⟩ tellHp_nil⟩⟩
  refine bsplit_intro (fun e => ?_) (fun _ => ?_)
  · refine .inr ⟨_, _, use_mut ⟨_, _, _, _, _, _, rfl, rfl, pick3 c hc (q + 1) 0 (-1) 3 (by omega) (by omega), rfl, ⟨rfl, rfl⟩⟩, ?_⟩
    refine .inr ⟨_, _, use_mut ⟨_, _, _, _, _, _, rfl, rfl, pick4 c hc (q + 1 + 1) 0 1 50 51 (by omega) (by omega), rfl, ⟨rfl, rfl⟩⟩, ?_⟩
    refine ask_intro ⟨by omega, by show (0 : Int) < (pn.length : Int); omega⟩ ?_
    refine ask_intro (by show 0 < pn.length; omega) ?_
    refine chk_intro (by kernel_rfl) ?_
    exact ⟨_, _, _, [], ⟨⟨ow, ln, bl, pn.set 0 (⟨pk c (q + 1) [0, -1, 3], pk c (q + 1 + 1) [0, 1, 50, 51]⟩ : SlotM)⟩, q + 1 + 1 + 1, ⟨hfew.own, hfew.ins, hfew.lns, hfew.bls, by show (pn.set 0 _).length ≤ 9; rw [List.length_set]; omega⟩, by omega, by omega, rfl, rfl, rfl⟩, chk_intro (by kernel_rfl) ⟨⟨tellV_frzN rfl rfl rfl (DLe.refl _), tellV_frz rfl rfl rfl (DLe.refl _), tellV_frz rfl rfl rfl (DLe.refl _), tellV_frz rfl rfl rfl (DLe.l (by rw [List.length_set]) (fun i hi => set_slot (l := pn) (z := ⟨pk c (q + 1) [0, -1, 3], pk c (q + 1 + 1) [0, 1, 50, 51]⟩) (by omega) i)), trivial⟩, tellHp_box rfl rfl ⟨DLe.refl _, rfl, trivial⟩ tellHp_nil⟩⟩
  refine bsplit_intro (fun e => ?_) (fun _ => ?_)
  · refine ask_intro ⟨rfl, by omega, by show (9 : Int) * 16 ≤ 140737488355328; omega, by omega⟩ ?_
    exact ⟨_, _, _, [], ⟨⟨ow, ln, bl, List.replicate 9 ⟨0, 0⟩⟩, q + 1, ⟨hfew.own, hfew.ins, hfew.lns, hfew.bls, by show (List.replicate 9 _).length ≤ 9; simp⟩, by omega, by omega, rfl, rfl, rfl⟩, chk_intro (by kernel_rfl) ⟨⟨tellV_frzN rfl rfl rfl (DLe.refl _), tellV_frz rfl rfl rfl (DLe.refl _), tellV_frz rfl rfl rfl (DLe.refl _), tellV_frz rfl rfl rfl (DLe.l (by simp) (fun i hi => rep_slot i hi)), trivial⟩, tellHp_box rfl rfl ⟨DLe.refl _, rfl, trivial⟩ tellHp_nil⟩⟩
  refine bsplit_intro (fun e => ?_) (fun _ => ?_)
  · refine ask_intro ⟨by omega, by show (0 : Int) < (ow.length : Int); omega⟩ ?_
    refine ask_intro (by show 0 < ow.length; omega) ?_
    exact ⟨_, _, _, [], ⟨⟨ow.set 0 [], ln, bl, pn⟩, q + 1, ⟨by show (ow.set 0 _).length ≤ 4; rw [List.length_set]; omega, hset [] (by simp), hfew.lns, hfew.bls, hfew.pln⟩, by omega, by omega, rfl, rfl, rfl⟩, chk_intro (by kernel_rfl) ⟨⟨tellV_frzH rfl rfl rfl (own_d7 _ ow h0), tellV_frz rfl rfl rfl (DLe.refl _), tellV_frz rfl rfl rfl (DLe.refl _), tellV_frz rfl rfl rfl (DLe.refl _), trivial⟩, tellHp_box rfl rfl ⟨DLe.refl _, rfl, trivial⟩ tellHp_nil⟩⟩
  refine bsplit_intro (fun e => ?_) (fun _ => ?_)
  · refine ask_intro ⟨rfl, by omega, by show (5 : Int) * 40 ≤ 140737488355328; omega, by omega⟩ ?_
    exact ⟨_, _, _, [], ⟨⟨ow, List.replicate 5 ⟨0, 0, 0, 0, 0⟩, bl, pn⟩, q + 1, ⟨hfew.own, hfew.ins, by show (List.replicate 5 _).length ≤ 5; simp, hfew.bls, hfew.pln⟩, by omega, by omega, rfl, rfl, rfl⟩, chk_intro (by kernel_rfl) ⟨⟨tellV_frzN rfl rfl rfl (DLe.refl _), tellV_frz rfl rfl rfl (DLe.l (by simp) (fun i hi => rep_lane i hi)), tellV_frz rfl rfl rfl (DLe.refl _), tellV_frz rfl rfl rfl (DLe.refl _), trivial⟩, tellHp_box rfl rfl ⟨DLe.refl _, rfl, trivial⟩ tellHp_nil⟩⟩
  exact ⟨_, _, _, [], ⟨⟨ow, ln, bl, pn⟩, q + 1, hfew, by omega, by omega, rfl, rfl, rfl⟩, chk_intro (by kernel_rfl) ⟨⟨tellV_frzN rfl rfl rfl (DLe.refl _), tellV_frz rfl rfl rfl (DLe.refl _), tellV_frz rfl rfl rfl (DLe.refl _), tellV_frz rfl rfl rfl (DLe.refl _), trivial⟩, tellHp_box rfl rfl ⟨DLe.refl _, rfl, trivial⟩ tellHp_nil⟩⟩
end Go.Proofs.Ytdpahckfibnagaa.L

/- Codes of bytes, as arguments read as data. -/
set_option linter.unusedVariables false
set_option linter.unusedSimpArgs false
set_option maxRecDepth 100000
namespace Go.Proofs.Ytdpahckfibnagaa.L
open Go.RowKit Go.ChangeShapes Go.WideShapes Go.ChangeAt
abbrev okByte (n : Int) : Prop := (Lit.int .u8 n).wf = true
theorem okByte_le {n : Int} (h : okByte n) : 0 ≤ n ∧ n ≤ 255 := by
  have h' : IntKind.u8.min ≤ n ∧ n ≤ IntKind.u8.max := by simpa [okByte, Lit.wf] using h
  have e : IntKind.u8.min = 0 := by decide
  have e2 : IntKind.u8.max = 255 := by decide
  rw [e, e2] at h'
  exact h'
abbrev okBytes (l : List Int) : Prop := l.length * 1 ≤ reachBytes ∧ ∀ x ∈ l, okByte x
theorem okBytes.code {l : List Int} (h : okBytes l) (hb : decide ((l.length : Int) > 1048576) = false) : okCode l := ⟨by simp at hb; omega, fun x hx => okByte_le (h.2 x hx)⟩
theorem reads_uint8 : ReadsT Try.prog 5 1 Int (fun n => [.v (.int .u8 n)]) okByte := ReadsT.int Try.underlying5 (by kernel_rfl)
theorem reads_bytes : ReadsT Try.prog 52 1 (List Int) (fun l => [bytesD l]) okBytes := ReadsT.slice reads_uint8 Try.underlying52 (by kernel_rfl) (by decide) 0 (by kernel_rfl)
end Go.Proofs.Ytdpahckfibnagaa.L

/- Whose turn it is: contracts. -/
set_option linter.unusedVariables false
set_option linter.unusedSimpArgs false
set_option maxRecDepth 100000
namespace Go.Proofs.Ytdpahckfibnagaa.L
open Go.RowKit
def stepsOK (l : List SlotM) : Prop := ∀ s ∈ l, 1 ≤ s.steps ∧ s.steps ≤ 50
def sumS : List SlotM → Int
  | [] => 0
  | s :: r => s.steps + sumS r
theorem sumS_b : ∀ {l : List SlotM}, stepsOK l → (l.length : Int) ≤ sumS l ∧ sumS l ≤ 50 * (l.length : Int)
  | [], _ => by simp [sumS]
  | s :: r, h => by
    have h1 := h s (.head _)
    have h2 := sumS_b (l := r) (fun x hx => h x (.tail _ hx))
    simp only [sumS, List.length_cons]
    omega
theorem stW_sum : ∀ (l : List SlotM) (n : Int), stepsOK l → 0 ≤ n → n + 50 * (l.length : Int) ≤ 1000000000 → stW (fun _ => true) l n = n + sumS l
  | [], n, _, _, _ => by simp [stW, sumS]
  | s :: r, n, h, h0, hb => by
    have h1 := h s (.head _)
    simp only [List.length_cons] at hb
    have hw : IntKind.i64.wrap (n + s.steps) = n + s.steps := wrap_i64 _ (by omega) (by omega)
    show stW _ r (IntKind.i64.wrap (n + s.steps)) = _
    rw [hw, stW_sum r _ (fun x hx => h x (.tail _ hx)) (by omega) (by omega)]
    simp only [sumS]; omega
theorem plan_ok {x : PolM} (h : polFault x = 0) : 1 ≤ x.pln.length ∧ x.pln.length ≤ 8 ∧ stepsOK x.pln := by
  have hp : planBad x.own.length x.pln = 0 := by
    unfold polFault at h
    split at h
    · cases hq : (decide (x.lns.length > 4) || decide (x.bls.length > 4)) with
      | true => rw [hq] at h; simp at h
      | false =>
        rw [hq, cond_false] at h
        split at h
        · split at h
          · exact h
          · rename_i e; exact absurd h e
        · rename_i e; exact absurd h e
    · rename_i e; exact absurd h e
  unfold planBad at hp
  cases hq : inR (x.pln.length : Int) 1 8 with
  | false => rw [hq] at hp; simp at hp
  | true =>
    rw [hq] at hp
    have hp : firstNZ (x.pln.map (slotBad x.own.length)) = 0 := hp
    have hi := inR_iff.1 hq
    refine ⟨by omega, by omega, fun s hs => ?_⟩
    have h1 := firstNZ_all hp (slotBad x.own.length s) (List.mem_map.2 ⟨s, hs, rfl⟩)
    unfold slotBad at h1
    cases hg : guestB x.own.length s.guest with
    | false => rw [hg] at h1; simp at h1
    | true =>
      rw [hg] at h1
      cases ht : inR s.steps 1 50 with
      | false => rw [ht] at h1; simp at h1
      | true => exact inR_iff.1 ht
def turnR : List SlotM → Int → Int × Int
  | [], _ => (0, 0)
  | s :: r, a => if a ≥ s.steps then ((turnR r (a - s.steps)).1 + 1, (turnR r (a - s.steps)).2) else (0, s.steps - a)
theorem turn_b : ∀ {l : List SlotM} {a : Int}, stepsOK l → 0 ≤ a → a < sumS l → 0 ≤ (turnR l a).1 ∧ (turnR l a).1 < l.length
  | [], a, _, h0, h1 => by simp [sumS] at h1; omega
  | s :: r, a, h, h0, h1 => by
    simp only [turnR, List.length_cons]
    simp only [sumS] at h1
    split
    · have := turn_b (l := r) (a := a - s.steps) (fun x hx => h x (.tail _ hx)) (by omega) (by omega)
      simp only; omega
    · simp only; omega
def turnM (x : PolM) (c : Int) : Int × Int := turnR x.pln (c.tmod (stW (fun _ => true) x.pln 0))
theorem clock_at {x : PolM} {c : Int} (h : askedC x c = 0) : polFault x = 0 ∧ 0 ≤ c ∧ c ≤ 1000000 := by
  unfold askedC at h
  split at h
  · rename_i e
    cases hb : inR c 0 1000000 with
    | false => rw [hb] at h; simp at h
    | true => have := inR_iff.1 hb; exact ⟨e, this.1, this.2⟩
  · rename_i e; exact absurd h e
theorem rem_b {x : PolM} {c : Int} (hp : 1 ≤ x.pln.length ∧ x.pln.length ≤ 8 ∧ stepsOK x.pln) (hc : 0 ≤ c) : stW (fun _ => true) x.pln 0 = sumS x.pln ∧ 1 ≤ sumS x.pln ∧ sumS x.pln ≤ 400 ∧ 0 ≤ c.tmod (sumS x.pln) ∧ c.tmod (sumS x.pln) < sumS x.pln := by
  have h1 := sumS_b hp.2.2
  have h2 := stW_sum x.pln 0 hp.2.2 (by omega) (by omega)
  refine ⟨by omega, by omega, by omega, ?_, ?_⟩
  · rw [Int.tmod_eq_emod_of_nonneg hc]
    exact Int.emod_nonneg _ (by omega)
  · rw [Int.tmod_eq_emod_of_nonneg hc]
    exact Int.emod_lt_of_pos _ (by omega)
theorem steps_drop {l : List SlotM} (h : stepsOK l) (k : Nat) : stepsOK (l.drop k) := fun s hs => h s (List.mem_of_mem_drop hs)
theorem turn_len {l : List SlotM} (h : stepsOK l) {k : Nat} {a : Int} (h0 : 0 ≤ a) (h1 : a < sumS (l.drop k)) : k < l.length := by
  rcases Nat.lt_or_ge k l.length with h2 | h2
  · exact h2
  · rw [List.drop_eq_nil_of_le h2] at h1
    simp only [sumS] at h1; omega
abbrev J3 (l : List SlotM) (R : Int × Int) (p : Nat × Int) : Prop := 0 ≤ p.2 ∧ p.2 < sumS (l.drop p.1) ∧ (turnR (l.drop p.1) p.2).1 + p.1 = R.1 ∧ (turnR (l.drop p.1) p.2).2 = R.2
theorem turn_go {l : List SlotM} {R : Int × Int} {k : Nat} {a : Int} (h : stepsOK l) (hj : J3 l R (k, a)) : k < l.length ∧ 1 ≤ (l.getD k ⟨0, 0⟩).steps ∧ (l.getD k ⟨0, 0⟩).steps ≤ 50 ∧ (a ≥ (l.getD k ⟨0, 0⟩).steps → J3 l R (k + 1, a - (l.getD k ⟨0, 0⟩).steps)) ∧ (¬ a ≥ (l.getD k ⟨0, 0⟩).steps → (k : Int) = R.1 ∧ (l.getD k ⟨0, 0⟩).steps - a = R.2) := by
  obtain ⟨h0, h1, h2, h3⟩ := hj
  simp only at h0 h1 h2 h3
  have hk := turn_len h h0 h1
  have hs := h (l.getD k ⟨0, 0⟩) (by rw [getD_at _ hk]; exact List.getElem_mem hk)
  rw [drop_consG ⟨0, 0⟩ l k hk] at h1 h2 h3
  simp only [sumS] at h1
  simp only [turnR] at h2 h3
  refine ⟨hk, hs.1, hs.2, fun hge => ?_, fun hlt => ?_⟩
  · rw [if_pos hge] at h2 h3
    simp only at h2 h3
    exact ⟨by show 0 ≤ a - (l.getD k ⟨0, 0⟩).steps; omega, by show a - (l.getD k ⟨0, 0⟩).steps < sumS (l.drop (k + 1)); omega, by show (turnR (l.drop (k + 1)) (a - (l.getD k ⟨0, 0⟩).steps)).1 + ((k + 1 : Nat) : Int) = R.1; omega, h3⟩
  · rw [if_neg hlt] at h2 h3
    simp only at h2 h3
    exact ⟨by omega, h3⟩
theorem c_impl_turnAt (x : PolM) (hs : x.small) (c : Int) (hf : askedC x c = 0) : FnOK Try.prog 76 [polP x, di c] (.tup [.one (.v (.int .i64 (turnM x c).1)), .one (.v (.int .i64 (turnM x c).2))]) := by
  obtain ⟨hp, hc0, hc1⟩ := clock_at hf
  have hok := plan_ok hp
  obtain ⟨hst, r1, r2, r3, r4⟩ := rem_b (c := c) hok hc0
  have cst := c_impl_stepsOf x hs (-1)
  rw [show ofG (-1) = fun _ => true from funext fun s => rfl, hst] at cst
  obtain ⟨R, hR⟩ : ∃ R, R = turnM x c := ⟨_, rfl⟩
  rw [← hR]
  unfold turnM at hR
  rw [hst] at hR
  refine fn_of lv76 Try.func76 rfl rfl (by kernel_rfl) rfl ?_
  refine .inl ⟨_, _, rfl, cst, rfl, ?_⟩
  refine ask_intro (by omega) ?_
  refine ⟨{ p : Nat × Int // J3 x.pln R p }, fun p => ⟨frL [(0, polP x), (1, di p.1.2), (6, di p.1.1)], hpL [], 96, 0⟩, fun p => x.pln.length - p.1.1, ⟨(0, c.tmod (sumS x.pln)), r3, by rw [List.drop_zero]; exact r4, by rw [List.drop_zero, ← hR]; simp, by rw [List.drop_zero, ← hR]⟩,
    le_of [] rfl rfl rfl rfl trivial (tellFr_x rfl ⟨DLe.refl _, DLe.refl _, DLe.refl _, DLe.refl _, trivial⟩ (tellFr_v rfl rfl (tellFr_v rfl rfl trivial))), ?_⟩
  rintro ⟨⟨k, a⟩, hj⟩
  have ha0 := hj.1
  obtain ⟨hk, s1, s2, hge, hlt⟩ := turn_go hok.2.2 hj
  simp only at ha0
  refine ask_intro ⟨by omega, by show (k : Int) < (x.pln.length : Int); omega, rfl⟩ ?_
  by_cases h1 : a ≥ (x.pln.getD k ⟨0, 0⟩).steps
  · refine bsplit_of_true (decide_eq_true h1) ?_
    refine ask_intro ⟨by omega, by show (k : Int) < (x.pln.length : Int); omega, rfl⟩ ?_
    have hb : a < sumS x.pln ∨ True := .inr trivial
    have ha1 : a ≤ 1000000 := by
      have := hj.2.1
      have q := sumS_b (steps_drop hok.2.2 k)
      simp only [List.length_drop] at q
      simp only at this
      omega
    have hw : IntKind.i64.wrap (a - (x.pln.getD k ⟨0, 0⟩).steps) = a - (x.pln.getD k ⟨0, 0⟩).steps := wrap_i64 _ (by omega) (by omega)
    exact ⟨⟨(k + 1, a - (x.pln.getD k ⟨0, 0⟩).steps), hge h1⟩, le_of [] rfl rfl rfl rfl trivial (tellFr_x rfl ⟨DLe.refl _, DLe.refl _, DLe.refl _, DLe.refl _, trivial⟩ (tellFr_v rfl (congrArg (Value.int .i64) hw) (tellFr_v rfl (congrArg (Value.int .i64) (wrap1 hk (by omega))) trivial))), by show x.pln.length - (k + 1) < x.pln.length - k; omega⟩
  · obtain ⟨z1, z2⟩ := hlt h1
    have hw : IntKind.i64.wrap ((x.pln.getD k ⟨0, 0⟩).steps - a) = (x.pln.getD k ⟨0, 0⟩).steps - a := wrap_i64 _ (by omega) (by omega)
    refine bsplit_of_false (decide_eq_false h1) ?_
    refine ask_intro ⟨by omega, by show (k : Int) < (x.pln.length : Int); omega, rfl⟩ ?_
    refine chk_intro (by kernel_rfl) ?_
    exact ⟨⟨congrArg (Value.int .i64) z1, congrArg (Value.int .i64) (hw.trans z2), trivial⟩, rfl⟩
theorem c_spec_l12Turn (x : PolM) (hs : x.small) (c : Int) (hf : askedC x c = 0) : FnOK Try.prog 74 [polP x, di c] (.tup [.one (.v (.int .i64 (turnM x c).1)), .one (.v (.int .i64 (turnM x c).2))]) := by
  obtain ⟨hp, hc0, hc1⟩ := clock_at hf
  have hok := plan_ok hp
  obtain ⟨hst, r1, r2, r3, r4⟩ := rem_b (c := c) hok hc0
  obtain ⟨R, hR⟩ : ∃ R, R = turnM x c := ⟨_, rfl⟩
  rw [← hR]
  unfold turnM at hR
  rw [hst] at hR
  refine fn_of lv74 Try.func74 rfl rfl (by kernel_rfl) rfl ?_
  refine ⟨{ p : Nat × Int // p.1 ≤ x.pln.length ∧ stW (fun _ => true) (x.pln.drop p.1) p.2 = sumS x.pln }, fun p => ⟨frL [(0, polP x), (1, di c), (6, di p.1.2), (7, di p.1.1)], hpL [], 96, 0⟩, fun p => x.pln.length - p.1.1, ⟨(0, 0), by omega, hst⟩,
    le_of [] rfl rfl rfl rfl trivial (tellFr_x rfl ⟨DLe.refl _, DLe.refl _, DLe.refl _, DLe.refl _, trivial⟩ (tellFr_v rfl rfl (tellFr_v rfl rfl (tellFr_v rfl rfl trivial)))), ?_⟩
  rintro ⟨⟨i, n⟩, hi, hall⟩
  simp only at hi hall
  by_cases h1 : i < x.pln.length
  · rw [stW_step _ _ _ h1] at hall
    refine bsplit_of_true (decide_eq_true (by show (i : Int) < (x.pln.length : Int); omega)) ?_
    refine ask_intro ⟨by omega, by show (i : Int) < (x.pln.length : Int); omega, rfl⟩ ?_
    exact ⟨⟨(i + 1, _), by show i + 1 ≤ _; omega, hall⟩, le_of [] rfl rfl rfl rfl trivial (tellFr_x rfl ⟨DLe.refl _, DLe.refl _, DLe.refl _, DLe.refl _, trivial⟩ (tellFr_v rfl rfl (tellFr_v rfl rfl (tellFr_v rfl (congrArg (Value.int .i64) (wrap1 h1 (by omega))) trivial)))), by show x.pln.length - (i + 1) < x.pln.length - i; omega⟩
  rw [List.drop_eq_nil_of_le (by omega)] at hall
  have hall : n = sumS x.pln := hall
  subst hall
  refine bsplit_of_false (decide_eq_false (by show ¬ (i : Int) < (x.pln.length : Int); omega)) ?_
  refine ask_intro (by show ¬ (sumS x.pln = 0); omega) ?_
  refine ⟨{ p : Nat × Int // J3 x.pln R p }, fun p => ⟨frL [(0, polP x), (8, di p.1.2), (9, di p.1.1)], hpL [], 96, 0⟩, fun p => x.pln.length - p.1.1, ⟨(0, c.tmod (sumS x.pln)), r3, by rw [List.drop_zero]; exact r4, by rw [List.drop_zero, ← hR]; simp, by rw [List.drop_zero, ← hR]⟩,
    le_of [] rfl rfl rfl rfl trivial (tellFr_x rfl ⟨DLe.refl _, DLe.refl _, DLe.refl _, DLe.refl _, trivial⟩ (tellFr_v rfl rfl (tellFr_v rfl rfl trivial))), ?_⟩
  rintro ⟨⟨k, a⟩, hj⟩
  have ha0 := hj.1
  obtain ⟨hk, s1, s2, hge, hlt⟩ := turn_go hok.2.2 hj
  simp only at ha0
  refine ask_intro ⟨by omega, by show (k : Int) < (x.pln.length : Int); omega, rfl⟩ ?_
  by_cases h1 : a ≥ (x.pln.getD k ⟨0, 0⟩).steps
  · refine bsplit_of_true (decide_eq_true h1) ?_
    refine ask_intro ⟨by omega, by show (k : Int) < (x.pln.length : Int); omega, rfl⟩ ?_
    have ha1 : a ≤ 1000000 := by
      have := hj.2.1
      have q := sumS_b (steps_drop hok.2.2 k)
      simp only [List.length_drop] at q
      simp only at this
      omega
    have hw : IntKind.i64.wrap (a - (x.pln.getD k ⟨0, 0⟩).steps) = a - (x.pln.getD k ⟨0, 0⟩).steps := wrap_i64 _ (by omega) (by omega)
    exact ⟨⟨(k + 1, a - (x.pln.getD k ⟨0, 0⟩).steps), hge h1⟩, le_of [] rfl rfl rfl rfl trivial (tellFr_x rfl ⟨DLe.refl _, DLe.refl _, DLe.refl _, DLe.refl _, trivial⟩ (tellFr_v rfl (congrArg (Value.int .i64) hw) (tellFr_v rfl (congrArg (Value.int .i64) (wrap1 hk (by omega))) trivial))), by show x.pln.length - (k + 1) < x.pln.length - k; omega⟩
  · obtain ⟨z1, z2⟩ := hlt h1
    have hw : IntKind.i64.wrap ((x.pln.getD k ⟨0, 0⟩).steps - a) = (x.pln.getD k ⟨0, 0⟩).steps - a := wrap_i64 _ (by omega) (by omega)
    refine bsplit_of_false (decide_eq_false h1) ?_
    refine ask_intro ⟨by omega, by show (k : Int) < (x.pln.length : Int); omega, rfl⟩ ?_
    refine chk_intro (by kernel_rfl) ?_
    exact ⟨⟨congrArg (Value.int .i64) z1, congrArg (Value.int .i64) (hw.trans z2), trivial⟩, rfl⟩
abbrev srR (p : Int × Int × SlotM) : RV1 := .agg [.v (.int .i64 p.1), .v (.int .i64 p.2.1), .v (.int .i64 p.2.2.guest), .v (.int .i64 p.2.2.steps)]
abbrev srLV (p : Int × Int × SlotM) : LV := .agg [di p.1, di p.2.1, di p.2.2.guest, di p.2.2.steps]
def turnAtM (x : PolM) (c : Int) : Int × Int × SlotM := if askedC x c = 0 then (0, (turnM x c).1, ⟨(x.pln.getD (turnM x c).1.toNat ⟨0, 0⟩).guest, (turnM x c).2⟩) else (askedC x c, 0, ⟨0, 0⟩)
theorem turnM_b {x : PolM} {c : Int} (hf : askedC x c = 0) : 0 ≤ (turnM x c).1 ∧ (turnM x c).1 < (x.pln.length : Int) := by
  obtain ⟨hp, hc0, hc1⟩ := clock_at hf
  have hok := plan_ok hp
  obtain ⟨hst, r1, r2, r3, r4⟩ := rem_b (c := c) hok hc0
  unfold turnM
  rw [hst]
  exact turn_b hok.2.2 r3 r4
theorem c_spec_TurnAt (x : PolM) (hs : x.small) (c : Int) : FnOK Try.prog 27 [polLV x, di c] (.r (srR (turnAtM x c))) := by
  have hl := hs.pln
  have c1 := c_spec_l12Asked x hs c
  have c2 := c_spec_l12Turn x hs c
  have hb := @turnM_b x c
  obtain ⟨r, hr⟩ : ∃ r, r = turnAtM x c := ⟨_, rfl⟩
  rw [← hr]
  unfold turnAtM at hr
  generalize askedC x c = e at *
  generalize turnM x c = t at *
  refine fn_of lv27 Try.func27 rfl rfl (by kernel_rfl) rfl ?_
  refine .inl ⟨_, _, rfl, c1, rfl, ?_⟩
  refine bsplit_intro (fun h => ?_) (fun h => ?_)
  · rw [if_neg (by simpa using h)] at hr
    subst hr
    exact ⟨⟨rfl, rfl, rfl, rfl, trivial⟩, rfl⟩
  have h : e = 0 := by simpa using h
  rw [if_pos h] at hr
  have c2 := c2 h
  have hb := hb h
  refine .inl ⟨_, _, rfl, c2, rfl, ?_⟩
  refine ask_intro ⟨hb.1, hb.2, rfl⟩ ?_
  subst hr
  exact ⟨⟨rfl, rfl, rfl, rfl, trivial⟩, rfl⟩
theorem c_impl_TurnAt (x : PolM) (hs : x.small) (c : Int) : FnOK Try.prog 28 [polLV x, di c] (.r (srR (turnAtM x c))) := by
  have hl := hs.pln
  have c1 := c_impl_clockFault x hs c
  have c2 := c_impl_turnAt x hs c
  have hb := @turnM_b x c
  obtain ⟨r, hr⟩ : ∃ r, r = turnAtM x c := ⟨_, rfl⟩
  rw [← hr]
  unfold turnAtM at hr
  generalize askedC x c = e at *
  generalize turnM x c = t at *
  refine fn_of lv28 Try.func28 rfl rfl (by kernel_rfl) rfl ?_
  refine .inl ⟨_, _, rfl, c1, rfl, ?_⟩
  refine bsplit_intro (fun h => ?_) (fun h => ?_)
  · rw [if_neg (by simpa using h)] at hr
    subst hr
    exact ⟨⟨rfl, rfl, rfl, rfl, trivial⟩, rfl⟩
  have h : e = 0 := by simpa using h
  rw [if_pos h] at hr
  have c2 := c2 h
  have hb := hb h
  refine .inl ⟨_, _, rfl, c2, rfl, ?_⟩
  refine ask_intro ⟨hb.1, hb.2, rfl⟩ ?_
  subst hr
  exact ⟨⟨rfl, rfl, rfl, rfl, trivial⟩, rfl⟩
theorem c_laws_eqSlotResult (p q : Int × Int × SlotM) : FnOK Try.prog 29 [srLV p, srLV q] (rb (decide (p = q))) := by
  have c1 := c_laws_eqSlot p.2.2 q.2.2
  obtain ⟨a1, a2, a3, a4⟩ := p
  obtain ⟨b1, b2, b3, b4⟩ := q
  refine fn_of lv29 Try.func29 rfl rfl (by kernel_rfl) rfl ?_
  repeat' (first | refine bsplit_true ?_ | refine bsplit_false ?_ | refine .inl ⟨_, _, rfl, c1, rfl, ?_⟩ | refine bsplit_intro (fun h => ?_) (fun h => ?_))
  all_goals refine ⟨⟨congrArg Value.bool ?_, trivial⟩, rfl⟩
  all_goals (simp_all <;> intro e f <;> omega)
end Go.Proofs.Ytdpahckfibnagaa.L

/- How many turns a guest had: contracts. -/
set_option linter.unusedVariables false
set_option linter.unusedSimpArgs false
set_option maxRecDepth 100000
namespace Go.Proofs.Ytdpahckfibnagaa.L
open Go.RowKit
abbrev minI (a b : Int) : Int := if b < a then b else a
theorem c_spec_l1Min (a b : Int) : FnOK Try.prog 79 [di a, di b] (ri (minI a b)) := by
  refine fn_of lv79 Try.func79 rfl rfl (by kernel_rfl) rfl ?_
  refine bsplit_intro (fun h => ?_) (fun h => ?_)
  all_goals refine ⟨⟨congrArg (Value.int .i64) ?_, trivial⟩, rfl⟩
  · have h := of_decide_eq_true h
    unfold minI
    rw [if_neg (by omega)]
  · have h := of_decide_eq_false h
    unfold minI
    split <;> omega
def tb (g : Int) : List SlotM → Int → Int → Int
  | [], _, n => n
  | s :: r, rest, n => tb g r (rest - minI rest s.steps) (bif s.guest == g then IntKind.i64.wrap (n + minI rest s.steps) else n)
def inI (n : Int) : Prop := -9223372036854775808 ≤ n ∧ n < 9223372036854775808
theorem inI_wrap (n : Int) : inI (IntKind.i64.wrap n) := by
  unfold inI
  rw [IntKind.wrap_i64]
  omega
theorem tb_zero (g : Int) : ∀ (l : List SlotM) (n : Int), stepsOK l → inI n → tb g l 0 n = n
  | [], n, _, _ => rfl
  | s :: r, n, h, hn => by
    have h1 := h s (.head _)
    have hm : minI 0 s.steps = 0 := if_neg (by omega)
    have hw : IntKind.i64.wrap n = n := wrap_i64 _ hn.1 hn.2
    simp only [tb, hm, Int.add_zero, Int.sub_zero, hw]
    cases (s.guest == g) <;> exact tb_zero g r n (fun x hx => h x (.tail _ hx)) hn
theorem tb_step (g : Int) (l : List SlotM) (k : Nat) (h : k < l.length) (rest n : Int) : tb g (l.drop k) rest n = tb g (l.drop (k + 1)) (rest - minI rest (l.getD k ⟨0, 0⟩).steps) (bif (l.getD k ⟨0, 0⟩).guest == g then IntKind.i64.wrap (n + minI rest (l.getD k ⟨0, 0⟩).steps) else n) := by
  rw [drop_consG ⟨0, 0⟩ l k h]; rfl
def turnsB (x : PolM) (c g : Int) : Int × Int := if askedC x c = 0 then (bif !guestB x.own.length g then (4, 0) else (0, tb g x.pln (c.tmod (sumS x.pln)) (IntKind.i64.wrap (IntKind.i64.wrap (c.tdiv (sumS x.pln)) * stW (fun s => s.guest == g) x.pln 0)))) else (askedC x c, 0)
theorem min_b {rest st : Int} (h0 : 0 ≤ rest) (h1 : 1 ≤ st) : 0 ≤ minI rest st ∧ minI rest st ≤ rest := by
  unfold minI; split <;> omega
set_option maxHeartbeats 1600000 in
theorem c_impl_TurnsBefore (x : PolM) (hs : x.small) (c g : Int) : FnOK Try.prog 31 [polLV x, di c, di g] (.r (irR (turnsB x c g))) := by
  have hl := hs.pln
  have c1 := c_impl_clockFault x hs c
  have c2 := c_impl_isGuest x hs g
  obtain ⟨r, hr⟩ : ∃ r, r = turnsB x c g := ⟨_, rfl⟩
  rw [← hr]
  unfold turnsB at hr
  by_cases he : askedC x c = 0
  rotate_left
  · rw [if_neg he] at hr
    subst hr
    refine fn_of lv31 Try.func31 rfl rfl (by kernel_rfl) rfl ?_
    refine .inl ⟨_, _, rfl, c1, rfl, ?_⟩
    refine bsplit_of_true (by simpa using he) ?_
    exact ⟨⟨rfl, rfl, trivial⟩, rfl⟩
  rw [if_pos he] at hr
  rw [he] at c1
  cases hg : guestB x.own.length g with
  | false =>
    rw [hg] at hr c2
    have hr : r = (4, 0) := hr
    subst hr
    refine fn_of lv31 Try.func31 rfl rfl (by kernel_rfl) rfl ?_
    refine .inl ⟨_, _, rfl, c1, rfl, ?_⟩
    repeat' (first | refine bsplit_true ?_ | refine bsplit_false ?_)
    refine .inl ⟨_, _, rfl, c2, rfl, ?_⟩
    repeat' (first | refine bsplit_true ?_ | refine bsplit_false ?_)
    exact ⟨⟨rfl, rfl, trivial⟩, rfl⟩
  | true =>
    rw [hg] at hr c2
    obtain ⟨hp, hc0, hc1⟩ := clock_at he
    have hok := plan_ok hp
    obtain ⟨hst, r1, r2, r3, r4⟩ := rem_b (c := c) hok hc0
    have hag : askedG x g = 0 := by unfold askedG; rw [if_pos hp, hg]; rfl
    have cst := c_impl_stepsOf x hs (-1)
    rw [show ofG (-1) = fun _ => true from funext fun s => rfl, hst] at cst
    have cf := c_impl_stepsOf x hs g
    rw [ofG_of hag] at cf
    generalize stW (fun s => s.guest == g) x.pln 0 = F at *
    have hr : r = (0, tb g x.pln (c.tmod (sumS x.pln)) (IntKind.i64.wrap (IntKind.i64.wrap (c.tdiv (sumS x.pln)) * F))) := hr
    obtain ⟨V, hV⟩ : ∃ V, V = tb g x.pln (c.tmod (sumS x.pln)) (IntKind.i64.wrap (IntKind.i64.wrap (c.tdiv (sumS x.pln)) * F)) := ⟨_, rfl⟩
    rw [← hV] at hr
    subst hr
    refine fn_of lv31 Try.func31 rfl rfl (by kernel_rfl) rfl ?_
    refine .inl ⟨_, _, rfl, c1, rfl, ?_⟩
    repeat' (first | refine bsplit_true ?_ | refine bsplit_false ?_)
    refine .inl ⟨_, _, rfl, c2, rfl, ?_⟩
    repeat' (first | refine bsplit_true ?_ | refine bsplit_false ?_)
    refine .inl ⟨_, _, rfl, cst, rfl, ?_⟩
    refine ask_intro (show ¬ (sumS x.pln = 0) by omega) ?_
    refine .inl ⟨_, _, rfl, cf, rfl, ?_⟩
    refine ask_intro (show ¬ (sumS x.pln = 0) by omega) ?_
    refine chk_intro (by kernel_rfl) ?_
    refine ⟨{ p : Nat × Int × Int // p.1 ≤ x.pln.length ∧ 0 ≤ p.2.2 ∧ p.2.2 ≤ 400 ∧ tb g (x.pln.drop p.1) p.2.2 p.2.1 = V }, fun p => ⟨frL [(2, di g), (6, .ptr 64 0), (9, di p.1.2.1), (10, di p.1.2.2), (35, .d (slots x.pln)), (36, di x.pln.length), (37, di p.1.1)], hpL [(64, .box 39 [di 0, di 0])], 96, 0⟩, fun p => x.pln.length - p.1.1, ⟨(0, _, _), by omega, r3, by show c.tmod (sumS x.pln) ≤ 400; omega, hV.symm⟩,
      le_of [(64, 32)] rfl rfl rfl rfl (tellHp_box rfl rfl ⟨rfl, rfl, trivial⟩ tellHp_nil) (tellFr_v rfl rfl (tellFr_ptr rfl rfl (tellFr_v rfl rfl (tellFr_v rfl rfl (tellFr_d rfl (DLe.refl _) (tellFr_v rfl rfl (tellFr_v rfl rfl trivial))))))), ?_⟩
    rintro ⟨⟨k, n, rest⟩, hk, hr0, hr1, hall⟩
    simp only at hk hr0 hr1 hall
    by_cases h1 : k < x.pln.length
    · rw [tb_step _ _ _ h1] at hall
      have hso := hok.2.2 (x.pln.getD k ⟨0, 0⟩) (by rw [getD_at _ h1]; exact List.getElem_mem h1)
      have hm := min_b hr0 hso.1
      have hw : IntKind.i64.wrap (rest - minI rest (x.pln.getD k ⟨0, 0⟩).steps) = rest - minI rest (x.pln.getD k ⟨0, 0⟩).steps := wrap_i64 _ (by omega) (by omega)
      refine bsplit_of_true (decide_eq_true (by show (k : Int) < (x.pln.length : Int); omega)) ?_
      refine ask_intro ⟨by omega, by show (k : Int) < (x.pln.length : Int); omega, rfl⟩ ?_
      refine bsplit_intro (fun h3 => ?_) (fun h3 => ?_)
      · rw [show ((x.pln.getD k ⟨0, 0⟩).guest == g) = true from h3] at hall
        exact ⟨⟨(k + 1, _, rest - minI rest (x.pln.getD k ⟨0, 0⟩).steps), by show k + 1 ≤ _; omega, by show 0 ≤ rest - minI rest (x.pln.getD k ⟨0, 0⟩).steps; omega, by show rest - minI rest (x.pln.getD k ⟨0, 0⟩).steps ≤ 400; omega, hall⟩, le_of [(64, 64)] rfl rfl rfl rfl (tellHp_box rfl rfl ⟨rfl, rfl, trivial⟩ tellHp_nil) (tellFr_v rfl rfl (tellFr_ptr rfl rfl (tellFr_v rfl rfl (tellFr_v rfl (congrArg (Value.int .i64) hw) (tellFr_d rfl (DLe.refl _) (tellFr_v rfl rfl (tellFr_v rfl (congrArg (Value.int .i64) (wrap1 h1 (by omega))) trivial))))))), by show x.pln.length - (k + 1) < x.pln.length - k; omega⟩
      · rw [show ((x.pln.getD k ⟨0, 0⟩).guest == g) = false from h3] at hall
        exact ⟨⟨(k + 1, _, rest - minI rest (x.pln.getD k ⟨0, 0⟩).steps), by show k + 1 ≤ _; omega, by show 0 ≤ rest - minI rest (x.pln.getD k ⟨0, 0⟩).steps; omega, by show rest - minI rest (x.pln.getD k ⟨0, 0⟩).steps ≤ 400; omega, hall⟩, le_of [(64, 64)] rfl rfl rfl rfl (tellHp_box rfl rfl ⟨rfl, rfl, trivial⟩ tellHp_nil) (tellFr_v rfl rfl (tellFr_ptr rfl rfl (tellFr_v rfl rfl (tellFr_v rfl (congrArg (Value.int .i64) hw) (tellFr_d rfl (DLe.refl _) (tellFr_v rfl rfl (tellFr_v rfl (congrArg (Value.int .i64) (wrap1 h1 (by omega))) trivial))))))), by show x.pln.length - (k + 1) < x.pln.length - k; omega⟩
    · rw [List.drop_eq_nil_of_le (by omega)] at hall
      have hall : n = V := hall
      refine bsplit_of_false (decide_eq_false (by show ¬ (k : Int) < (x.pln.length : Int); omega)) ?_
      exact ⟨⟨rfl, congrArg (Value.int .i64) hall, trivial⟩, rfl⟩
set_option maxHeartbeats 1600000 in
theorem c_spec_TurnsBefore (x : PolM) (hs : x.small) (c g : Int) : FnOK Try.prog 30 [polLV x, di c, di g] (.r (irR (turnsB x c g))) := by
  have hl := hs.pln
  have c1 := c_spec_l12Asked x hs c
  have c2 := c_spec_l6Guest x hs g
  obtain ⟨r, hr⟩ : ∃ r, r = turnsB x c g := ⟨_, rfl⟩
  rw [← hr]
  unfold turnsB at hr
  by_cases he : askedC x c = 0
  rotate_left
  · rw [if_neg he] at hr
    subst hr
    refine fn_of lv30 Try.func30 rfl rfl (by kernel_rfl) rfl ?_
    refine .inl ⟨_, _, rfl, c1, rfl, ?_⟩
    refine bsplit_of_true (by simpa using he) ?_
    exact ⟨⟨rfl, rfl, trivial⟩, rfl⟩
  rw [if_pos he] at hr
  rw [he] at c1
  cases hg : guestB x.own.length g with
  | false =>
    rw [hg] at hr c2
    have hr : r = (4, 0) := hr
    subst hr
    refine fn_of lv30 Try.func30 rfl rfl (by kernel_rfl) rfl ?_
    refine .inl ⟨_, _, rfl, c1, rfl, ?_⟩
    repeat' (first | refine bsplit_true ?_ | refine bsplit_false ?_)
    refine .inl ⟨_, _, rfl, c2, rfl, ?_⟩
    repeat' (first | refine bsplit_true ?_ | refine bsplit_false ?_)
    exact ⟨⟨rfl, rfl, trivial⟩, rfl⟩
  | true =>
    rw [hg] at hr c2
    obtain ⟨hp, hc0, hc1⟩ := clock_at he
    have hok := plan_ok hp
    obtain ⟨hst, r1, r2, r3, r4⟩ := rem_b (c := c) hok hc0
    have hag : askedG x g = 0 := by unfold askedG; rw [if_pos hp, hg]; rfl
    have cst := c_spec_RoundOf x hs
    rw [show roundOf x = (0, sumS x.pln) from by unfold roundOf; rw [if_pos hp, hst]] at cst
    have cf := c_spec_FramesOf x hs g
    rw [show framesOf x g = (0, stW (fun s => s.guest == g) x.pln 0) from by unfold framesOf; rw [if_pos hag]] at cf
    generalize stW (fun s => s.guest == g) x.pln 0 = F at *
    have hr : r = (0, tb g x.pln (c.tmod (sumS x.pln)) (IntKind.i64.wrap (IntKind.i64.wrap (c.tdiv (sumS x.pln)) * F))) := hr
    obtain ⟨V, hV⟩ : ∃ V, V = tb g x.pln (c.tmod (sumS x.pln)) (IntKind.i64.wrap (IntKind.i64.wrap (c.tdiv (sumS x.pln)) * F)) := ⟨_, rfl⟩
    rw [← hV] at hr
    subst hr
    refine fn_of lv30 Try.func30 rfl rfl (by kernel_rfl) rfl ?_
    refine .inl ⟨_, _, rfl, c1, rfl, ?_⟩
    repeat' (first | refine bsplit_true ?_ | refine bsplit_false ?_)
    refine .inl ⟨_, _, rfl, c2, rfl, ?_⟩
    repeat' (first | refine bsplit_true ?_ | refine bsplit_false ?_)
    refine .inl ⟨_, _, rfl, cst, rfl, ?_⟩
    refine ask_intro (show ¬ (sumS x.pln = 0) by omega) ?_
    refine .inl ⟨_, _, rfl, cf, rfl, ?_⟩
    refine chk_intro (by kernel_rfl) ?_
    refine ask_intro (show ¬ (sumS x.pln = 0) by omega) ?_
    refine ⟨{ p : Nat × Int × Int // p.1 ≤ x.pln.length ∧ 0 ≤ p.2.2 ∧ p.2.2 ≤ 400 ∧ inI p.2.1 ∧ tb g (x.pln.drop p.1) p.2.2 p.2.1 = V }, fun p => ⟨frL [(2, di g), (3, .ptr 64 0), (6, .ptr 65 0), (9, di p.1.2.1), (10, di p.1.2.2), (11, di p.1.1)], hpL [(64, .box 34 [.d (owns x.own), .d (lanes x.lns), .d (bells x.bls), .d (slots x.pln)]), (65, .box 39 [di 0, di 0])], 96, 0⟩, fun p => x.pln.length - p.1.1, ⟨(0, _, _), by omega, r3, by show c.tmod (sumS x.pln) ≤ 400; omega, inI_wrap _, hV.symm⟩,
      le_of [(64, 0), (65, 32)] rfl rfl rfl rfl (tellHp_box rfl rfl ⟨DLe.refl _, DLe.refl _, DLe.refl _, DLe.refl _, trivial⟩ (tellHp_box rfl rfl ⟨rfl, rfl, trivial⟩ tellHp_nil)) (tellFr_v rfl rfl (tellFr_ptr rfl rfl (tellFr_ptr rfl rfl (tellFr_v rfl rfl (tellFr_v rfl rfl (tellFr_v rfl rfl trivial)))))), ?_⟩
    rintro ⟨⟨k, n, rest⟩, hk, hr0, hr1, hin, hall⟩
    simp only at hk hr0 hr1 hin hall
    by_cases h1 : k < x.pln.length
    · refine bsplit_of_true (decide_eq_true (by show (k : Int) < (x.pln.length : Int); omega)) ?_
      repeat' (first | refine bsplit_true ?_ | refine bsplit_false ?_)
      by_cases h2 : rest > 0
      · rw [tb_step _ _ _ h1] at hall
        have hso := hok.2.2 (x.pln.getD k ⟨0, 0⟩) (by rw [getD_at _ h1]; exact List.getElem_mem h1)
        have hm := min_b hr0 hso.1
        have hw : IntKind.i64.wrap (rest - minI rest (x.pln.getD k ⟨0, 0⟩).steps) = rest - minI rest (x.pln.getD k ⟨0, 0⟩).steps := wrap_i64 _ (by omega) (by omega)
        have cm := c_spec_l1Min rest (x.pln.getD k ⟨0, 0⟩).steps
        refine bsplit_of_true (decide_eq_true (show rest > 0 from h2)) ?_
        refine ask_intro ⟨by omega, by show (k : Int) < (x.pln.length : Int); omega, rfl⟩ ?_
        refine bsplit_intro (fun h3 => ?_) (fun h3 => ?_)
        · rw [show ((x.pln.getD k ⟨0, 0⟩).guest == g) = true from h3] at hall
          refine ask_intro ⟨by omega, by show (k : Int) < (x.pln.length : Int); omega, rfl⟩ ?_
          refine .inl ⟨_, _, rfl, cm, rfl, ?_⟩
          refine ask_intro ⟨by omega, by show (k : Int) < (x.pln.length : Int); omega, rfl⟩ ?_
          refine .inl ⟨_, _, rfl, cm, rfl, ?_⟩
          exact ⟨⟨(k + 1, _, rest - minI rest (x.pln.getD k ⟨0, 0⟩).steps), by show k + 1 ≤ _; omega, by show 0 ≤ rest - minI rest (x.pln.getD k ⟨0, 0⟩).steps; omega, by show rest - minI rest (x.pln.getD k ⟨0, 0⟩).steps ≤ 400; omega, inI_wrap _, hall⟩, le_of [(64, 64), (65, 65)] rfl rfl rfl rfl (tellHp_box rfl rfl ⟨DLe.refl _, DLe.refl _, DLe.refl _, DLe.refl _, trivial⟩ (tellHp_box rfl rfl ⟨rfl, rfl, trivial⟩ tellHp_nil)) (tellFr_v rfl rfl (tellFr_ptr rfl rfl (tellFr_ptr rfl rfl (tellFr_v rfl rfl (tellFr_v rfl (congrArg (Value.int .i64) hw) (tellFr_v rfl (congrArg (Value.int .i64) (wrap1 h1 (by omega))) trivial)))))), by show x.pln.length - (k + 1) < x.pln.length - k; omega⟩
        · rw [show ((x.pln.getD k ⟨0, 0⟩).guest == g) = false from h3] at hall
          refine ask_intro ⟨by omega, by show (k : Int) < (x.pln.length : Int); omega, rfl⟩ ?_
          refine .inl ⟨_, _, rfl, cm, rfl, ?_⟩
          exact ⟨⟨(k + 1, _, rest - minI rest (x.pln.getD k ⟨0, 0⟩).steps), by show k + 1 ≤ _; omega, by show 0 ≤ rest - minI rest (x.pln.getD k ⟨0, 0⟩).steps; omega, by show rest - minI rest (x.pln.getD k ⟨0, 0⟩).steps ≤ 400; omega, hin, hall⟩, le_of [(64, 64), (65, 65)] rfl rfl rfl rfl (tellHp_box rfl rfl ⟨DLe.refl _, DLe.refl _, DLe.refl _, DLe.refl _, trivial⟩ (tellHp_box rfl rfl ⟨rfl, rfl, trivial⟩ tellHp_nil)) (tellFr_v rfl rfl (tellFr_ptr rfl rfl (tellFr_ptr rfl rfl (tellFr_v rfl rfl (tellFr_v rfl (congrArg (Value.int .i64) hw) (tellFr_v rfl (congrArg (Value.int .i64) (wrap1 h1 (by omega))) trivial)))))), by show x.pln.length - (k + 1) < x.pln.length - k; omega⟩
      · refine bsplit_of_false (decide_eq_false (show ¬ rest > 0 from h2)) ?_
        obtain rfl : rest = 0 := by omega
        rw [tb_zero g _ _ (steps_drop hok.2.2 k) hin] at hall
        exact ⟨⟨rfl, congrArg (Value.int .i64) hall, trivial⟩, rfl⟩
    · rw [List.drop_eq_nil_of_le (by omega)] at hall
      have hall : n = V := hall
      refine bsplit_of_false (decide_eq_false (by show ¬ (k : Int) < (x.pln.length : Int); omega)) ?_
      repeat' (first | refine bsplit_true ?_ | refine bsplit_false ?_)
      exact ⟨⟨rfl, congrArg (Value.int .i64) hall, trivial⟩, rfl⟩
end Go.Proofs.Ytdpahckfibnagaa.L

/- Policies that are drawn with numbers; plain facts of policies. -/
set_option linter.unusedVariables false
set_option linter.unusedSimpArgs false
set_option maxRecDepth 100000
namespace Go.Proofs.Ytdpahckfibnagaa.L
open Go.RowKit
abbrev polSh (x : PolM) : RV1 := .agg [.sh (owns x.own), .sh (lanes x.lns), .sh (bells x.bls), .sh (slots x.pln)]
theorem c_spec_l6With (c : List Int) (hc : okCode c) : FnS Try.prog 95 [.d (bytesD c)] (fun r => ∃ (x : PolM) (g : Int), x.few ∧ r = .tup [polSh x, .one (.v (.int .i64 g))]) := by
  refine fnS_fn_of lv95 Try.func95 rfl rfl (by kernel_rfl) rfl ?_
  refine .inr ⟨rfl, use_mut ⟨_, _, _, _, _, _, rfl, rfl, c_spec_l1Source c, rfl, ?_⟩⟩
  refine .inr ⟨rfl, use_mutS ⟨_, _, _, _, rfl, rfl, c_spec_l6Bent c hc 0 (by omega) (by omega), rfl, ?_⟩⟩
  rintro _ _ _ ⟨x, q, hx, hq1, hq2, rfl, rfl, rfl⟩
  refine ⟨rfl, ?_⟩
  refine .inr ⟨_, _, use_mut ⟨_, _, _, _, _, _, rfl, rfl, pick7 c hc q 0 1 2 0 1 3 (-1) (by omega) (by omega), rfl, ⟨rfl, rfl⟩⟩, ?_⟩
  refine chk_intro (by kernel_rfl) ?_
  exact ⟨_, ⟨x, _, hx, rfl⟩, ⟨DLe.refl _, DLe.refl _, DLe.refl _, DLe.refl _, rfl, trivial⟩, rfl⟩
theorem c_spec_DrawReachTo (c : List Int) (hc : okCode c) : FnS Try.prog 44 [.d (bytesD c)] (fun r => ∃ (x : PolM) (g : Int), x.few ∧ r = .tup [polSh x, .one (.v (.int .i64 g))]) := by
  refine fnS_fn_of lv44 Try.func44 rfl rfl (by kernel_rfl) rfl ?_
  refine .inr ⟨rfl, use_fn ⟨_, _, rfl, c_spec_l6With c hc, ?_⟩⟩
  rintro _ ⟨x, g, hx, rfl⟩
  refine ⟨rfl, ?_⟩
  exact ⟨_, ⟨x, g, hx, rfl⟩, ⟨DLe.refl _, DLe.refl _, DLe.refl _, DLe.refl _, rfl, trivial⟩, rfl⟩
theorem c_spec_DrawTurnAt (c : List Int) (hc : okCode c) : FnS Try.prog 81 [.d (bytesD c)] (fun r => ∃ (x : PolM) (g : Int), x.few ∧ r = .tup [polSh x, .one (.v (.int .i64 g))]) := by
  refine fnS_fn_of lv81 Try.func81 rfl rfl (by kernel_rfl) rfl ?_
  refine .inr ⟨rfl, use_mut ⟨_, _, _, _, _, _, rfl, rfl, c_spec_l1Source c, rfl, ?_⟩⟩
  refine .inr ⟨rfl, use_mutS ⟨_, _, _, _, rfl, rfl, c_spec_l6Bent c hc 0 (by omega) (by omega), rfl, ?_⟩⟩
  rintro _ _ _ ⟨x, q, hx, hq1, hq2, rfl, rfl, rfl⟩
  refine ⟨rfl, ?_⟩
  refine .inr ⟨_, _, use_mut ⟨_, _, _, _, _, _, rfl, rfl, c_spec_l1Next c hc q 90 (by omega) (by omega), rfl, ⟨rfl, rfl⟩⟩, ?_⟩
  refine .inr ⟨_, _, use_mut ⟨_, _, _, _, _, _, rfl, rfl, c_spec_l1Next c hc (q + 1) 90 (by omega) (by omega), rfl, ⟨rfl, rfl⟩⟩, ?_⟩
  refine .inr ⟨_, _, use_mut ⟨_, _, _, _, _, _, rfl, rfl, pick6 c hc (q + 1 + 1) _ _ 1000000 1000001 0 (-1) (by omega) (by omega), rfl, ⟨rfl, rfl⟩⟩, ?_⟩
  refine chk_intro (by kernel_rfl) ?_
  exact ⟨_, ⟨x, _, hx, rfl⟩, ⟨DLe.refl _, DLe.refl _, DLe.refl _, DLe.refl _, rfl, trivial⟩, rfl⟩
theorem c_spec_DrawTurnsBefore (c : List Int) (hc : okCode c) : FnS Try.prog 33 [.d (bytesD c)] (fun r => ∃ (x : PolM) (k g : Int), x.few ∧ r = .tup [polSh x, .one (.v (.int .i64 k)), .one (.v (.int .i64 g))]) := by
  refine fnS_fn_of lv33 Try.func33 rfl rfl (by kernel_rfl) rfl ?_
  refine .inr ⟨rfl, use_fn ⟨_, _, rfl, c_spec_DrawTurnAt c hc, ?_⟩⟩
  rintro _ ⟨x, k, hx, rfl⟩
  refine ⟨rfl, ?_⟩
  refine .inr ⟨rfl, use_mut ⟨_, _, _, _, _, _, rfl, rfl, c_spec_l1Source c, rfl, ?_⟩⟩
  refine .inr ⟨_, _, use_mut ⟨_, _, _, _, _, _, rfl, rfl, pick6 c hc 0 0 1 2 0 3 (-1) (by omega) (by omega), rfl, ⟨rfl, rfl⟩⟩, ?_⟩
  refine chk_intro (by kernel_rfl) ?_
  exact ⟨_, ⟨x, k, _, hx, rfl⟩, ⟨DLe.refl _, DLe.refl _, DLe.refl _, DLe.refl _, rfl, rfl, trivial⟩, rfl⟩
theorem hasI_mem' {l : List Int} {v : Int} : hasI l v = true ↔ v ∈ l := by
  unfold hasI
  simp
theorem c_laws_lwHas (l : List Int) (v : Int) (hl : l.length ≤ 4611686018427387904) : FnOK Try.prog 45 [.d (ints l), di v] (rb (hasI l v)) := by
  obtain ⟨r, hr⟩ : ∃ r, r = hasI l v := ⟨_, rfl⟩
  rw [← hr]
  refine fn_of lv45 Try.func45 rfl rfl (by kernel_rfl) rfl ?_
  refine ⟨{ i : Nat // i ≤ l.length ∧ hasI (l.drop i) v = r }, fun i => ⟨frL [(0, .d (ints l)), (1, di v), (5, di i.1)], hpL [], 97, 0⟩, fun i => l.length - i.1, ⟨0, by omega, hr.symm⟩,
    le_of [] rfl rfl rfl rfl trivial (tellFr_d rfl (DLe.refl _) (tellFr_v rfl rfl (tellFr_v rfl rfl trivial))), ?_⟩
  rintro ⟨i, hi, hall⟩
  by_cases h1 : i < l.length
  · have hw := congrArg (Value.int .i64) (wrap1 h1 (by omega))
    rw [drop_consG 0 l i h1] at hall
    unfold hasI at hall
    rw [List.any_cons] at hall
    refine bsplit_of_true (decide_eq_true (show (i : Int) < (l.length : Int) by omega)) ?_
    refine ask_intro ⟨by omega, by show (i : Int) < (l.length : Int); omega, rfl⟩ ?_
    refine bsplit_intro (fun h2 => ?_) (fun h2 => ?_)
    · have h2 : (l.getD i 0 == v) = true := h2
      rw [h2, Bool.true_or] at hall
      exact ⟨⟨congrArg Value.bool hall, trivial⟩, rfl⟩
    · have h2 : (l.getD i 0 == v) = false := h2
      rw [h2, Bool.false_or] at hall
      exact ⟨⟨i + 1, by omega, hall⟩, le_of [] rfl rfl rfl rfl trivial (tellFr_d rfl (DLe.refl _) (tellFr_v rfl rfl (tellFr_v rfl hw trivial))), by show l.length - (i + 1) < l.length - i; omega⟩
  · rw [List.drop_eq_nil_of_le (by omega)] at hall
    refine bsplit_of_false (decide_eq_false (show ¬ (i : Int) < (l.length : Int) by omega)) ?_
    exact ⟨⟨congrArg Value.bool hall, trivial⟩, rfl⟩
/-! ## owners -/
theorem dupS_nodup : ∀ {l S : List Int}, dupS S l = false → l.Nodup ∧ ∀ a ∈ l, a ∉ S
  | [], S, _ => ⟨List.nodup_nil, fun a h => by simp at h⟩
  | x :: l, S, h => by
    simp only [dupS, Bool.or_eq_false_iff] at h
    obtain ⟨h1, h2⟩ := dupS_nodup h.2
    have hx : x ∉ S := fun hm => by rw [hasI_mem'.2 hm] at h; simp at h
    refine ⟨List.nodup_cons.2 ⟨fun hm => h2 x hm (by simp), h1⟩, fun a ha => ?_⟩
    rcases List.mem_cons.1 ha with e | e
    · rw [e]; exact hx
    · exact fun hm => h2 a e (List.mem_append_left _ hm)
theorem own_nodup {x : PolM} (h : polFault x = 0) : x.own.flatten.Nodup := by
  unfold polFault at h
  split at h
  · rename_i ho
    unfold ownBad at ho
    cases hq : inR (x.own.length : Int) 1 3 with
    | false => rw [hq] at ho; simp at ho
    | true =>
      rw [hq, Bool.not_true, cond_false] at ho
      split at ho
      · cases hd : dupS [] x.own.flatten with
        | true => rw [hd] at ho; simp at ho
        | false => exact (dupS_nodup hd).1
      · rename_i e; exact absurd ho e
  · rename_i ho; exact absurd h ho
theorem flat_apart : ∀ {l : List (List Int)}, l.flatten.Nodup → ∀ i j, i < j → j < l.length → ∀ a, a ∈ l.getD i [] → a ∉ l.getD j []
  | [], _, i, j, _, hj, _, _ => absurd hj (by simp)
  | r :: l, h, i, j, hij, hj, a, ha => by
    rw [List.flatten_cons, List.nodup_append] at h
    obtain ⟨j, rfl⟩ : ∃ k, j = k + 1 := ⟨j - 1, by omega⟩
    have hj' : j < l.length := by simpa using hj
    show a ∉ l.getD j []
    cases i with
    | zero =>
      have ha : a ∈ r := ha
      intro hm
      refine h.2.2 a ha a (List.mem_flatten.2 ⟨l.getD j [], ?_, hm⟩) rfl
      rw [getD_at [] hj']; exact List.getElem_mem _
    | succ i => exact flat_apart (l := l) h.2.1 i j (by omega) hj' a ha
theorem idxG_first {α : Type} (d : α) {l : List α} {p : α → Bool} {i : Nat} (hi : i < l.length) (hp : p (l.getD i d) = true) : ∀ k, k ≤ i → (∀ j, i - k ≤ j → j < i → p (l.getD j d) = false) → idxG p l (i - k) = i
  | 0, _, _ => by rw [Nat.sub_zero]; exact idxG_hit d hi hp
  | k + 1, hk, h => by
    have e : i - (k + 1) + 1 = i - k := by omega
    rw [idxG_miss d (i := i - (k + 1)) (by omega) (h _ (Nat.le_refl _) (by omega)), e]
    exact idxG_first d hi hp k (by omega) (fun j h1 h2 => h j (by omega) h2)
theorem owner_at {x : PolM} (h : polFault x = 0) (i : Nat) (hi : i < x.own.length) (v : Int) (hv : v ∈ x.own.getD i []) : ownerP x.own v = i := by
  have hn := own_nodup h
  have := idxG_first (p := fun r => hasI r v) ([] : List Int) hi (hasI_mem'.2 hv) i (Nat.le_refl _) (fun j _ hj => by
    have := flat_apart hn j i hj hi v
    cases hb : hasI (x.own.getD j []) v with
    | false => rfl
    | true => exact absurd hv (this (hasI_mem'.1 hb)))
  rw [Nat.sub_self] at this
  exact this
theorem ownerOf_at {x : PolM} (h : polFault x = 0) (i : Nat) (hi : i < x.own.length) (v : Int) (hv : v ∈ x.own.getD i []) : ownerOf x v = (0, (i : Int)) := by
  unfold ownerOf
  rw [if_pos h, owner_at h i hi v hv, if_neg (by omega)]
/-! ## steps -/
def sumG (g : Int) : List SlotM → Int
  | [] => 0
  | s :: r => (if s.guest = g then s.steps else 0) + sumG g r
theorem sumG_b (g : Int) : ∀ {l : List SlotM}, stepsOK l → 0 ≤ sumG g l ∧ sumG g l ≤ sumS l
  | [], _ => by simp [sumG, sumS]
  | s :: r, h => by
    have h1 := h s (.head _)
    have h2 := sumG_b g (l := r) (fun x hx => h x (.tail _ hx))
    simp only [sumG, sumS]
    split <;> omega
theorem stW_sumG (g : Int) : ∀ (l : List SlotM) (n : Int), stepsOK l → 0 ≤ n → n + 50 * (l.length : Int) ≤ 1000000000 → stW (fun s => s.guest == g) l n = n + sumG g l
  | [], n, _, _, _ => by simp [stW, sumG]
  | s :: r, n, h, h0, hb => by
    have h1 := h s (.head _)
    simp only [List.length_cons] at hb
    have hw : IntKind.i64.wrap (n + s.steps) = n + s.steps := wrap_i64 _ (by omega) (by omega)
    show stW _ r (bif s.guest == g then IntKind.i64.wrap (n + s.steps) else n) = _
    simp only [sumG]
    by_cases hg : s.guest = g
    · rw [beq_iff_eq.2 hg, cond_true, hw, stW_sumG g r _ (fun x hx => h x (.tail _ hx)) (by omega) (by omega), if_pos hg]; omega
    · rw [beq_eq_false_iff_ne.2 hg, cond_false, stW_sumG g r _ (fun x hx => h x (.tail _ hx)) (by omega) (by omega), if_neg hg]; omega
def sumTo (l : List SlotM) : Nat → Int
  | 0 => 0
  | k + 1 => sumTo l k + sumG k l
theorem sumTo_cons (s : SlotM) (l : List SlotM) : ∀ n, sumTo (s :: l) n = (if 0 ≤ s.guest ∧ s.guest < (n : Int) then s.steps else 0) + sumTo l n
  | 0 => by
    show (0 : Int) = _ + 0
    rw [if_neg (by omega)]; omega
  | n + 1 => by
    show sumTo (s :: l) n + ((if s.guest = (n : Int) then s.steps else 0) + sumG n l) = _ + (sumTo l n + sumG n l)
    rw [sumTo_cons s l n]
    by_cases h1 : s.guest = (n : Int)
    · rw [if_pos h1, if_neg (by omega), if_pos (by omega)]; omega
    · rw [if_neg h1]
      by_cases h2 : 0 ≤ s.guest ∧ s.guest < (n : Int)
      · rw [if_pos h2, if_pos (by omega)]; omega
      · rw [if_neg h2, if_neg (by omega)]; omega
theorem sumTo_nil : ∀ n, sumTo [] n = 0
  | 0 => rfl
  | n + 1 => by show sumTo [] n + 0 = 0; rw [sumTo_nil n]; rfl
theorem sumTo_all : ∀ {l : List SlotM} {n : Nat}, (∀ s ∈ l, 0 ≤ s.guest ∧ s.guest < (n : Int)) → sumTo l n = sumS l
  | [], n, _ => sumTo_nil n
  | s :: l, n, h => by
    rw [sumTo_cons, if_pos (h s (.head _)), sumTo_all (l := l) (fun x hx => h x (.tail _ hx))]
    rfl
theorem plan_guest {x : PolM} (h : polFault x = 0) : ∀ s ∈ x.pln, 0 ≤ s.guest ∧ s.guest < (x.own.length : Int) := by
  have hp : planBad x.own.length x.pln = 0 := by
    unfold polFault at h
    split at h
    · cases hq : (decide (x.lns.length > 4) || decide (x.bls.length > 4)) with
      | true => rw [hq] at h; simp at h
      | false =>
        rw [hq, cond_false] at h
        split at h
        · split at h
          · exact h
          · rename_i e; exact absurd h e
        · rename_i e; exact absurd h e
    · rename_i e; exact absurd h e
  unfold planBad at hp
  cases hq : inR (x.pln.length : Int) 1 8 with
  | false => rw [hq] at hp; simp at hp
  | true =>
    rw [hq] at hp
    have hp : firstNZ (x.pln.map (slotBad x.own.length)) = 0 := hp
    intro s hs
    have h1 := firstNZ_all hp (slotBad x.own.length s) (List.mem_map.2 ⟨s, hs, rfl⟩)
    unfold slotBad at h1
    cases hg : guestB x.own.length s.guest with
    | false => rw [hg] at h1; simp at h1
    | true =>
      have := inR_iff.1 (show inR s.guest 0 _ = true from hg)
      omega
theorem sumTo_b {l : List SlotM} (h : stepsOK l) : ∀ n, 0 ≤ sumTo l n ∧ sumTo l n ≤ (n : Int) * sumS l
  | 0 => by simp [sumTo]
  | n + 1 => by
    have h1 := sumTo_b h n
    have h2 := sumG_b n h
    show 0 ≤ sumTo l n + sumG n l ∧ sumTo l n + sumG n l ≤ ((n + 1 : Nat) : Int) * sumS l
    have : ((n + 1 : Nat) : Int) * sumS l = (n : Int) * sumS l + sumS l := by
      rw [show ((n + 1 : Nat) : Int) = (n : Int) + 1 by omega, Int.add_mul, Int.one_mul]
    omega
theorem own_few3 {x : PolM} (h : polFault x = 0) : 1 ≤ x.own.length ∧ x.own.length ≤ 3 := by
  unfold polFault at h
  split at h
  · rename_i ho
    unfold ownBad at ho
    cases hq : inR (x.own.length : Int) 1 3 with
    | false => rw [hq] at ho; simp at ho
    | true => have := inR_iff.1 hq; omega
  · rename_i ho; exact absurd h ho
theorem asked_of {x : PolM} (h : polFault x = 0) (k : Nat) (hk : k < x.own.length) : askedG x k = 0 := by
  unfold askedG
  rw [if_pos h, show guestB x.own.length k = true from inR_iff.2 ⟨by omega, by omega⟩]
  rfl
theorem asked_pol2 {x : PolM} {g : Int} (h : askedG x g = 0) : polFault x = 0 := by
  unfold askedG at h
  split at h
  · assumption
  · rename_i e; exact absurd h e
theorem framesOf_at {x : PolM} (h : polFault x = 0) (k : Nat) (hk : k < x.own.length) : framesOf x k = (0, sumG k x.pln) := by
  unfold framesOf
  obtain ⟨p1, p2, p3⟩ := plan_ok h
  rw [if_pos (asked_of h k hk), stW_sumG k x.pln 0 p3 (by omega) (by omega)]
  simp
theorem roundOf_at {x : PolM} (h : polFault x = 0) : roundOf x = (0, sumS x.pln) := by
  unfold roundOf
  obtain ⟨p1, p2, p3⟩ := plan_ok h
  rw [if_pos h, stW_sum x.pln 0 p3 (by omega) (by omega)]
  simp
end Go.Proofs.Ytdpahckfibnagaa.L

/- What the functions compute that draw a machine: contracts. -/
set_option linter.unusedVariables false
set_option linter.unusedSimpArgs false
set_option maxRecDepth 100000
namespace Go.Proofs.Ytdpahckfibnagaa.L
open Go.RowKit
structure HartM.drawn (m : HartM) : Prop where
  regs : m.regs.length = 16
  csr : m.csr.length = 11
  inp : m.inp.length ≤ 2
  out : m.out.length ≤ 40
abbrev hartN : List LV := [dv (.slice none 0 0), di 0, dv (.slice none 0 0), dv (.bool false), dv (.bool false), dv (.bool false), di 0, dv (.slice none 0 0), dv (.slice none 0 0)]
theorem setM_drawn {m : HartM} (h : m.drawn) (k w : Int) : (setM m k w).drawn := by
  obtain ⟨h1, h2, h3, h4⟩ := h
  unfold setM setCsrL
  (repeat' split) <;> exact ⟨by simpa using h1, by simpa using h2, by simpa using h3, by simpa using h4⟩
end Go.Proofs.Ytdpahckfibnagaa.L

/- What the functions compute that draw a machine with something bent: contracts. -/
set_option linter.unusedVariables false
set_option linter.unusedSimpArgs false
set_option maxRecDepth 100000
namespace Go.Proofs.Ytdpahckfibnagaa.L
open Go.RowKit
theorem drop_intsB (l : List Int) (k i : Nat) : intsF l (k + i) = intsF (l.drop k) i := by
  show [D.v (.int .i64 (l.getD (k + i) 0))] = [D.v (.int .i64 ((l.drop k).getD i 0))]
  simp [List.getD, List.getElem?_drop]
theorem HartM.drawn.small {m : HartM} (h : m.drawn) : m.small := by
  obtain ⟨h1, h2, h3, h4⟩ := h
  exact ⟨by omega, by omega, by omega, by omega⟩
end Go.Proofs.Ytdpahckfibnagaa.L

/- What the functions compute that draw a machine and what is done to it: contracts. -/
set_option linter.unusedVariables false
set_option linter.unusedSimpArgs false
set_option maxRecDepth 100000
namespace Go.Proofs.Ytdpahckfibnagaa.L
open Go.RowKit
abbrev hartSh (m : HartM) : RV1 := .agg [.sh (ints m.regs), .v (.int .i64 m.pc), .sh (ints m.csr), .v (.bool m.halted), .v (.bool m.waiting), .v (.bool m.rung), .v (.int .i64 m.done), .sh (ints m.inp), .sh (ints m.out)]
theorem c_laws_lwBig (c : List Int) (hc : c.length ≤ 9223372036854775807) : FnOK Try.prog 32 [.d (bytesD c)] (rb (decide ((c.length : Int) > 1048576))) := by
  refine fn_of lv32 Try.func32 rfl rfl (by kernel_rfl) rfl ?_
  exact ⟨⟨rfl, trivial⟩, rfl⟩
end Go.Proofs.Ytdpahckfibnagaa.L

/- The law over turns answers true. -/
set_option linter.unusedVariables false
set_option linter.unusedSimpArgs false
set_option maxRecDepth 100000
namespace Go.Proofs.Ytdpahckfibnagaa.L
open Go.RowKit
def tbP (g : Int) : List SlotM → Int → Int
  | [], _ => 0
  | s :: r, rest => (if s.guest = g then minI rest s.steps else 0) + tbP g r (rest - minI rest s.steps)
theorem tbP_b (g : Int) : ∀ {l : List SlotM} {rest : Int}, stepsOK l → 0 ≤ rest → 0 ≤ tbP g l rest ∧ tbP g l rest ≤ rest
  | [], rest, _, h => by simp [tbP]; exact h
  | s :: r, rest, h, h0 => by
    have h1 := h s (.head _)
    have hm := min_b (rest := rest) (st := s.steps) h0 h1.1
    have := tbP_b g (l := r) (rest := rest - minI rest s.steps) (fun x hx => h x (.tail _ hx)) (by omega)
    simp only [tbP]
    split <;> omega
theorem tbP_zero (g : Int) {l : List SlotM} (h : stepsOK l) : tbP g l 0 = 0 := by
  have := tbP_b g h (Int.le_refl 0)
  omega
theorem tb_eq (g : Int) : ∀ (l : List SlotM) (rest n : Int), stepsOK l → 0 ≤ rest → rest ≤ 1000000 → 0 ≤ n → n + rest ≤ 1000000000 → tb g l rest n = n + tbP g l rest
  | [], rest, n, _, _, _, _, _ => by simp [tb, tbP]
  | s :: r, rest, n, h, h0, h1, hn, hb => by
    have hs := h s (.head _)
    have hm := min_b (rest := rest) (st := s.steps) h0 hs.1
    have hw : IntKind.i64.wrap (n + minI rest s.steps) = n + minI rest s.steps := wrap_i64 _ (by omega) (by omega)
    simp only [tb, tbP]
    by_cases hg : s.guest = g
    · rw [beq_iff_eq.2 hg, cond_true, if_pos hg, hw, tb_eq g r _ _ (fun x hx => h x (.tail _ hx)) (by omega) (by omega) (by omega) (by omega)]; omega
    · rw [beq_eq_false_iff_ne.2 hg, cond_false, if_neg hg, tb_eq g r _ _ (fun x hx => h x (.tail _ hx)) (by omega) (by omega) (by omega) (by omega)]; omega
def sumP (l : List SlotM) (rest : Int) : Nat → Int
  | 0 => 0
  | k + 1 => sumP l rest k + tbP k l rest
theorem sumP_cons (s : SlotM) (l : List SlotM) (rest : Int) : ∀ n, sumP (s :: l) rest n = (if 0 ≤ s.guest ∧ s.guest < (n : Int) then minI rest s.steps else 0) + sumP l (rest - minI rest s.steps) n
  | 0 => by
    show (0 : Int) = _ + 0
    rw [if_neg (by omega)]; omega
  | n + 1 => by
    show sumP (s :: l) rest n + ((if s.guest = (n : Int) then minI rest s.steps else 0) + tbP n l (rest - minI rest s.steps)) = _ + (sumP l (rest - minI rest s.steps) n + tbP n l (rest - minI rest s.steps))
    rw [sumP_cons s l rest n]
    by_cases h1 : s.guest = (n : Int)
    · rw [if_pos h1, if_neg (by omega), if_pos (by omega)]; omega
    · rw [if_neg h1]
      by_cases h2 : 0 ≤ s.guest ∧ s.guest < (n : Int)
      · rw [if_pos h2, if_pos (by omega)]; omega
      · rw [if_neg h2, if_neg (by omega)]; omega
theorem sumP_nil (rest : Int) : ∀ n, sumP [] rest n = 0
  | 0 => rfl
  | n + 1 => by show sumP [] rest n + 0 = 0; rw [sumP_nil rest n]; rfl
theorem sumP_all {n : Nat} : ∀ {l : List SlotM} {rest : Int}, (∀ s ∈ l, 0 ≤ s.guest ∧ s.guest < (n : Int)) → stepsOK l → 0 ≤ rest → rest ≤ sumS l → sumP l rest n = rest
  | [], rest, _, _, h0, h1 => by rw [sumP_nil]; simp only [sumS] at h1; omega
  | s :: l, rest, h, hs, h0, h1 => by
    have h2 := hs s (.head _)
    have hm := min_b (rest := rest) (st := s.steps) h0 h2.1
    simp only [sumS] at h1
    have hb := (sumS_b (l := l) (fun x hx => hs x (.tail _ hx))).1
    rw [sumP_cons, if_pos (h s (.head _)), sumP_all (l := l) (rest := rest - minI rest s.steps) (fun x hx => h x (.tail _ hx)) (fun x hx => hs x (.tail _ hx)) (by omega) (by unfold minI; split <;> omega)]
    omega
theorem tbP_full (g : Int) : ∀ {l : List SlotM}, stepsOK l → tbP g l (sumS l) = sumG g l
  | [], _ => rfl
  | s :: l, h => by
    have h2 := h s (.head _)
    have hb := (sumS_b (l := l) (fun x hx => h x (.tail _ hx))).1
    have hm : minI (sumS (s :: l)) s.steps = s.steps := by
      simp only [sumS]
      unfold minI
      split <;> omega
    simp only [tbP, sumG]
    rw [hm, show sumS (s :: l) - s.steps = sumS l by simp only [sumS]; omega, tbP_full g (l := l) (fun x hx => h x (.tail _ hx))]
theorem tbP_next (g : Int) : ∀ {l : List SlotM} {rest : Int}, stepsOK l → 0 ≤ rest → rest < sumS l → tbP g l (rest + 1) = tbP g l rest + (if (l.getD (turnR l rest).1.toNat ⟨0, 0⟩).guest = g then 1 else 0)
  | [], rest, _, h0, h1 => by simp only [sumS] at h1; omega
  | s :: l, rest, h, h0, h1 => by
    have h2 := h s (.head _)
    have hl : stepsOK l := fun x hx => h x (.tail _ hx)
    simp only [sumS] at h1
    simp only [tbP]
    by_cases hge : rest ≥ s.steps
    · have hm1 : minI (rest + 1) s.steps = s.steps := by unfold minI; split <;> omega
      have hm2 : minI rest s.steps = s.steps := by unfold minI; split <;> omega
      have ht := turn_b (l := l) (a := rest - s.steps) hl (by omega) (by omega)
      have e0 : (turnR (s :: l) rest).1 = (turnR l (rest - s.steps)).1 + 1 := by simp only [turnR]; rw [if_pos hge]
      have e : (turnR (s :: l) rest).1.toNat = (turnR l (rest - s.steps)).1.toNat + 1 := by omega
      have hgd : (s :: l).getD (turnR (s :: l) rest).1.toNat ⟨0, 0⟩ = l.getD (turnR l (rest - s.steps)).1.toNat ⟨0, 0⟩ := by rw [e]; rfl
      rw [hgd, hm1, hm2]
      rw [show rest + 1 - s.steps = (rest - s.steps) + 1 by omega, tbP_next g (l := l) (rest := rest - s.steps) hl (by omega) (by omega)]
      omega
    · have hm1 : minI (rest + 1) s.steps = rest + 1 := by unfold minI; split <;> omega
      have hm2 : minI rest s.steps = rest := by unfold minI; split <;> omega
      have e0 : (turnR (s :: l) rest).1 = 0 := by simp only [turnR]; rw [if_neg hge]
      have hgd : (s :: l).getD (turnR (s :: l) rest).1.toNat ⟨0, 0⟩ = s := by rw [e0]; rfl
      rw [hgd, hm1, hm2]
      rw [show rest + 1 - (rest + 1) = 0 by omega, show rest - rest = 0 by omega, tbP_zero g hl]
      split <;> omega
theorem turnR_st : ∀ {l : List SlotM} {a : Int}, stepsOK l → 0 ≤ a → a < sumS l → 1 ≤ (turnR l a).2 ∧ (turnR l a).2 ≤ (l.getD (turnR l a).1.toNat ⟨0, 0⟩).steps
  | [], a, _, h0, h1 => by simp only [sumS] at h1; omega
  | s :: l, a, h, h0, h1 => by
    have h2 := h s (.head _)
    have hl : stepsOK l := fun x hx => h x (.tail _ hx)
    simp only [sumS] at h1
    simp only [turnR]
    by_cases hge : a ≥ s.steps
    · have ht := turn_b (l := l) (a := a - s.steps) hl (by omega) (by omega)
      have e : ((turnR l (a - s.steps)).1 + 1).toNat = (turnR l (a - s.steps)).1.toNat + 1 := by omega
      rw [if_pos hge]
      simp only [e]
      exact turnR_st (l := l) (a := a - s.steps) hl (by omega) (by omega)
    · rw [if_neg hge]
      show 1 ≤ s.steps - a ∧ s.steps - a ≤ s.steps
      omega
/-- how many turns a guest had -/
def valT (l : List SlotM) (c g : Int) : Int := c / sumS l * sumG g l + tbP g l (c % sumS l)
theorem valT_next {l : List SlotM} (h : stepsOK l) (hl : 1 ≤ sumS l) {c g : Int} (hc : 0 ≤ c) : valT l (c + 1) g = valT l c g + (if (l.getD (turnR l (c % sumS l)).1.toNat ⟨0, 0⟩).guest = g then 1 else 0) := by
  have h0 := Int.emod_nonneg c (show sumS l ≠ 0 by omega)
  have h1 := Int.emod_lt_of_pos c (show 0 < sumS l by omega)
  have hn := tbP_next g h h0 h1
  have hdm := Int.mul_ediv_add_emod c (sumS l)
  unfold valT
  by_cases e : c % sumS l + 1 < sumS l
  · have e1 : (c + 1) / sumS l = c / sumS l := by
      rw [Int.ediv_eq_iff_of_pos (by omega)]
      constructor
      · rw [Int.mul_comm]; omega
      · rw [Int.mul_comm (c / sumS l)]; omega
    have e2 : (c + 1) % sumS l = c % sumS l + 1 := by
      have := Int.mul_ediv_add_emod (c + 1) (sumS l)
      rw [e1] at this
      omega
    rw [e1, e2, hn]; omega
  · have e0 : c % sumS l + 1 = sumS l := by omega
    have e1 : (c + 1) / sumS l = c / sumS l + 1 := by
      rw [Int.ediv_eq_iff_of_pos (by omega)]
      constructor
      · rw [Int.add_mul, Int.mul_comm (c / sumS l)]; omega
      · rw [Int.add_mul, Int.mul_comm (c / sumS l)]; omega
    have e2 : (c + 1) % sumS l = 0 := by
      have := Int.mul_ediv_add_emod (c + 1) (sumS l)
      rw [e1, Int.mul_add] at this
      omega
    rw [e0, tbP_full g h] at hn
    rw [e1, e2, tbP_zero g h, Int.add_mul]
    omega
theorem turnsB_at {x : PolM} {c : Int} (h : askedC x c = 0) {g : Int} (hg : guestB x.own.length g = true) : turnsB x c g = (0, valT x.pln c g) ∧ 0 ≤ valT x.pln c g ∧ valT x.pln c g ≤ c := by
  obtain ⟨hp, h0, h1⟩ := clock_at h
  have hpl := plan_ok hp
  obtain ⟨r1, r2, r3, r4, r5⟩ := rem_b hpl h0
  have hd0 : 0 ≤ c / sumS x.pln := Int.ediv_nonneg h0 (by omega)
  have hdc : c / sumS x.pln ≤ c := Int.ediv_le_self _ h0
  have hgb := sumG_b g hpl.2.2
  have hst := stW_sumG g x.pln 0 hpl.2.2 (by omega) (by omega)
  have hm0 : 0 ≤ c / sumS x.pln * sumG g x.pln := Int.mul_nonneg hd0 hgb.1
  have hdm := Int.mul_ediv_add_emod c (sumS x.pln)
  have hmu : c / sumS x.pln * sumG g x.pln ≤ sumS x.pln * (c / sumS x.pln) := by
    rw [Int.mul_comm (sumS x.pln)]
    exact Int.mul_le_mul_of_nonneg_left hgb.2 hd0
  rw [Int.tmod_eq_emod_of_nonneg h0] at r4 r5
  have hb := tbP_b g hpl.2.2 r4
  have hw1 : IntKind.i64.wrap (c / sumS x.pln) = c / sumS x.pln := wrap_i64 _ (by omega) (by omega)
  have hw2 : IntKind.i64.wrap (c / sumS x.pln * sumG g x.pln) = c / sumS x.pln * sumG g x.pln := wrap_i64 _ (by omega) (by omega)
  refine ⟨?_, by unfold valT; omega, by unfold valT; omega⟩
  unfold turnsB
  rw [if_pos h, hg, hst, Int.zero_add, Int.tmod_eq_emod_of_nonneg h0, Int.tdiv_eq_ediv_of_nonneg h0, hw1, hw2, tb_eq g x.pln _ _ hpl.2.2 r4 (by omega) hm0 (by omega)]
  rfl
def sumV (l : List SlotM) (c : Int) : Nat → Int
  | 0 => 0
  | k + 1 => sumV l c k + valT l c k
theorem sumV_eq (l : List SlotM) (c : Int) : ∀ n, sumV l c n = c / sumS l * sumTo l n + sumP l (c % sumS l) n
  | 0 => by simp [sumV, sumTo, sumP]
  | n + 1 => by
    show sumV l c n + valT l c n = c / sumS l * (sumTo l n + sumG n l) + (sumP l (c % sumS l) n + tbP n l (c % sumS l))
    rw [sumV_eq l c n, Int.mul_add]
    unfold valT
    omega
theorem sumV_all {x : PolM} {c : Int} (h : askedC x c = 0) : sumV x.pln c x.own.length = c := by
  obtain ⟨hp, h0, h1⟩ := clock_at h
  have hpl := plan_ok hp
  obtain ⟨r1, r2, r3, r4, r5⟩ := rem_b hpl h0
  rw [Int.tmod_eq_emod_of_nonneg h0] at r4 r5
  rw [sumV_eq, sumTo_all (plan_guest hp), sumP_all (plan_guest hp) hpl.2.2 r4 (by omega), Int.mul_comm]
  exact Int.mul_ediv_add_emod c (sumS x.pln)
set_option maxHeartbeats 6400000 in
theorem c_laws_FnTurns (c : List Int) (ho : okBytes c) : FnOK Try.prog 9 [.d (bytesD c)] (rb true) := by
  have hrb := reach_eq
  have hlen : c.length * 1 ≤ 140737488351232 := by have := ho.1; omega
  refine fn_of lv9 Try.func9 rfl rfl (by kernel_rfl) rfl ?_
  refine .inl ⟨_, _, rfl, c_laws_lwBig c (by omega), rfl, ?_⟩
  refine bsplit_intro (fun h => ?_) (fun h => ?_)
  · exact ⟨⟨rfl, trivial⟩, rfl⟩
  have hc := ho.code h
  refine .inr ⟨rfl, use_fn ⟨_, _, rfl, c_spec_DrawTurnsBefore c hc, ?_⟩⟩
  rintro _ ⟨x, k, g, hx, rfl⟩
  refine ⟨rfl, ?_⟩
  have hs := hx.small
  have ci := c_impl_TurnsBefore x hs k g
  have cs := c_spec_TurnsBefore x hs k g
  by_cases h0 : (turnsB x k g).1 = 0
  rotate_left
  · obtain ⟨⟨cd, v⟩, hq⟩ : ∃ q, q = turnsB x k g := ⟨_, rfl⟩
    rw [← hq] at ci cs h0
    refine .inl ⟨_, _, rfl, ci, rfl, ?_⟩
    refine bsplit_of_true (by simpa using h0) ?_
    refine .inl ⟨_, _, rfl, cs, rfl, ?_⟩
    refine chk_intro (by kernel_rfl) ?_
    exact ⟨⟨congrArg Value.bool (by simp), trivial⟩, rfl⟩
  have hak : askedC x k = 0 := by
    unfold turnsB at h0
    split at h0
    · assumption
    · rename_i e; exact absurd h0 e
  have hgg : guestB x.own.length g = true := by
    unfold turnsB at h0
    rw [if_pos hak] at h0
    cases e : guestB x.own.length g with
    | true => rfl
    | false => rw [e] at h0; simp at h0
  obtain ⟨hp, hk0, hk1⟩ := clock_at hak
  have hn3 := own_few3 hp
  have hpl := plan_ok hp
  obtain ⟨r1, r2, r3, r4, r5⟩ := rem_b hpl hk0
  obtain ⟨ev, hv0, hv1⟩ := turnsB_at hak hgg
  rw [ev] at ci cs
  have hall := sumV_all hak
  have hround := roundOf_at hp
  have hgk : ∀ j, j < x.own.length → guestB x.own.length (j : Int) = true := fun j hj => inR_iff.2 ⟨by omega, by omega⟩
  have hval := fun (j : Nat) (hj : j < x.own.length) => turnsB_at hak (hgk j hj)
  have hpar : ∀ j, j ≤ x.own.length → 0 ≤ sumV x.pln k j ∧ sumV x.pln k j ≤ (j : Int) * k := by
    intro j
    induction j with
    | zero => intro _; simp [sumV]
    | succ j ih =>
      intro hj
      have h1 := ih (by omega)
      have h2 := (hval j (by omega)).2
      show 0 ≤ sumV x.pln k j + valT x.pln k j ∧ sumV x.pln k j + valT x.pln k j ≤ ((j + 1 : Nat) : Int) * k
      rw [show ((j + 1 : Nat) : Int) = (j : Int) + 1 by omega, Int.add_mul, Int.one_mul]
      omega
  have hsm := hs.own
  -- whose turn it is
  have htm : turnM x k = turnR x.pln (k.tmod (sumS x.pln)) := by unfold turnM; rw [r1]
  have htb := turn_b hpl.2.2 r4 r5
  have hts := turnR_st hpl.2.2 r4 r5
  obtain ⟨⟨at_, st⟩, hat⟩ : ∃ q, q = turnR x.pln (k.tmod (sumS x.pln)) := ⟨_, rfl⟩
  rw [← hat] at htm htb hts
  simp only at htb hts
  obtain ⟨gs, hgs⟩ : ∃ gs, gs = (x.pln.getD at_.toNat ⟨0, 0⟩).guest := ⟨_, rfl⟩
  have ht1 : turnAtM x k = (0, at_, ⟨gs, st⟩) := by unfold turnAtM; rw [if_pos hak, htm, hgs]
  have hak2 : askedC x (k.tmod (sumS x.pln)) = 0 := by
    unfold askedC
    rw [if_pos hp, show inR (k.tmod (sumS x.pln)) 0 1000000 = true from inR_iff.2 ⟨r4, by omega⟩]
    rfl
  have ht2 : turnAtM x (k.tmod (sumS x.pln)) = (0, at_, ⟨gs, st⟩) := by
    have e : turnM x (k.tmod (sumS x.pln)) = (at_, st) := by
      unfold turnM
      rw [r1, Int.tmod_eq_of_lt r4 r5, hat]
    unfold turnAtM
    rw [if_pos hak2, e, hgs]
  have ct1 := c_impl_TurnAt x hs k
  have ct2 := c_impl_TurnAt x hs (k.tmod (sumS x.pln))
  rw [ht1] at ct1
  rw [ht2] at ct2
  have cr := c_impl_RoundOf x hs
  rw [hround] at cr
  have hpn := hs.pln
  have hxg : ∀ d, (x.pln.getD at_.toNat d).guest = gs := fun d => by
    have e1 := getD_at (l := x.pln) (i := at_.toNat) d (by omega)
    have e2 := getD_at (l := x.pln) (i := at_.toNat) ⟨0, 0⟩ (by omega)
    rw [hgs, e1, e2]
  -- the next turn
  have hnx : k ≠ 1000000 → FnOK Try.prog 31 [polLV x, di (IntKind.i64.wrap (k + 1)), di g] (.r (irR (0, valT x.pln k g + (if gs = g then 1 else 0)))) := fun hne => by
    have hw : IntKind.i64.wrap (k + 1) = k + 1 := wrap_i64 _ (by omega) (by omega)
    have hak3 : askedC x (k + 1) = 0 := by
      unfold askedC
      rw [if_pos hp, show inR (k + 1) 0 1000000 = true from inR_iff.2 ⟨by omega, by omega⟩]
      rfl
    have := c_impl_TurnsBefore x hs (k + 1) g
    rw [(turnsB_at hak3 hgg).1, valT_next hpl.2.2 (by omega) hk0] at this
    rw [← Int.tmod_eq_emod_of_nonneg hk0, ← hat] at this
    rw [hw]
    rw [hgs]
    exact this
  have hfin : (valT x.pln k g + (if gs = g then (1 : Int) else 0) == IntKind.i64.wrap (valT x.pln k g + 1)) = (gs == g) := by
    rw [wrap_i64 _ (by omega) (by omega)]
    by_cases e : gs = g
    · rw [if_pos e, beq_iff_eq.2 e]; simp
    · rw [if_neg e, beq_eq_false_iff_ne.2 e, beq_eq_false_iff_ne]; omega
  have hfin2 : valT x.pln k g + (if gs = g then (1 : Int) else 0) ≥ valT x.pln k g := by split <;> omega
  obtain ⟨nv, hnv⟩ : ∃ nv, nv = valT x.pln k g + (if gs = g then (1 : Int) else 0) := ⟨_, rfl⟩
  rw [← hnv] at hnx hfin hfin2
  obtain ⟨vv, hvv⟩ : ∃ vv, vv = valT x.pln k g := ⟨_, rfl⟩
  rw [← hvv] at hfin hfin2 ci
  refine .inl ⟨_, _, rfl, ci, rfl, ?_⟩
  refine bsplit_of_false rfl ?_
  refine ⟨{ j : Nat // j ≤ x.own.length }, fun j => ⟨frL [(3, .ptr 10 0), (4, di k), (5, di g), (6, .ptr 11 0), (7, di (sumV x.pln k j.1)), (8, di j.1)], hpL [(10, .box 34 [.d (owns x.own), .d (lanes x.lns), .d (bells x.bls), .d (slots x.pln)]), (11, .box 39 [di 0, di vv])], 100, 0⟩, fun j => x.own.length - j.1, ⟨0, by omega⟩,
    le_of [(10, 8384), (11, 12416)] rfl rfl rfl rfl (tellHp_box rfl rfl ⟨DLe.refl _, DLe.refl _, DLe.refl _, DLe.refl _, trivial⟩ (tellHp_box rfl rfl ⟨rfl, rfl, trivial⟩ tellHp_nil)) (tellFr_ptr rfl rfl (tellFr_v rfl rfl (tellFr_v rfl rfl (tellFr_ptr rfl rfl (tellFr_v rfl rfl (tellFr_v rfl rfl trivial)))))), ?_⟩
  rintro ⟨j, hj⟩
  by_cases h1 : j < x.own.length
  · have hw := congrArg (Value.int .i64) (wrap1 h1 (by omega))
    have cj := c_impl_TurnsBefore x hs k j
    obtain ⟨q1, q2, q3⟩ := hval j h1
    rw [q1] at cj
    have hb := hpar j (by omega)
    have hm : (j : Int) * k ≤ 3 * 1000000 := by
      have h8 : (j : Int) * k ≤ 3 * k := Int.mul_le_mul_of_nonneg_right (by omega) hk0
      omega
    have hws : IntKind.i64.wrap (sumV x.pln k j + valT x.pln k (j : Int)) = sumV x.pln k (j + 1) := by rw [wrap_i64 _ (by omega) (by omega)]; rfl
    refine bsplit_of_true (decide_eq_true (show (j : Int) < (x.own.length : Int) by omega)) ?_
    refine .inl ⟨_, _, rfl, cj, rfl, ?_⟩
    exact ⟨⟨j + 1, by omega⟩, le_of [(10, 10), (11, 11)] rfl rfl rfl rfl (tellHp_box rfl rfl ⟨DLe.refl _, DLe.refl _, DLe.refl _, DLe.refl _, trivial⟩ (tellHp_box rfl rfl ⟨rfl, rfl, trivial⟩ tellHp_nil)) (tellFr_ptr rfl rfl (tellFr_v rfl rfl (tellFr_v rfl rfl (tellFr_ptr rfl rfl (tellFr_v rfl (congrArg (Value.int .i64) hws) (tellFr_v rfl hw trivial)))))), by show x.own.length - (j + 1) < x.own.length - j; omega⟩
  obtain rfl : j = x.own.length := by omega
  refine bsplit_of_false (decide_eq_false (show ¬ (x.own.length : Int) < (x.own.length : Int) by omega)) ?_
  refine .inl ⟨_, _, rfl, cr, rfl, ?_⟩
  refine .inl ⟨_, _, rfl, ct1, rfl, ?_⟩
  repeat' (first | refine bsplit_true ?_ | refine bsplit_false ?_)
  refine bsplit_of_false (show (sumV x.pln k x.own.length != k) = false by rw [hall]; simp) ?_
  repeat' (first | refine bsplit_true ?_ | refine bsplit_false ?_)
  refine bsplit_of_false (decide_eq_false (show ¬ sumS x.pln < 1 by omega)) ?_
  repeat' (first | refine bsplit_true ?_ | refine bsplit_false ?_)
  refine ask_intro (show sumS x.pln ≠ 0 by omega) ?_
  repeat' (first | refine bsplit_true ?_ | refine bsplit_false ?_)
  refine .inl ⟨_, _, rfl, ct2, rfl, ?_⟩
  repeat' (first | refine bsplit_true ?_ | refine bsplit_false ?_)
  refine bsplit_of_false (show (at_ != at_) = false by simp) ?_
  repeat' (first | refine bsplit_true ?_ | refine bsplit_false ?_)
  refine ask_intro ⟨by show 0 ≤ at_; omega, by show at_ < (x.pln.length : Int); omega, rfl⟩ ?_
  repeat' (first | refine bsplit_true ?_ | refine bsplit_false ?_)
  refine bsplit_of_false (show (gs != (x.pln.getD at_.toNat ⟨0, 0⟩).guest) = false by rw [← hgs]; simp) ?_
  repeat' (first | refine bsplit_true ?_ | refine bsplit_false ?_)
  refine bsplit_of_false (decide_eq_false (show ¬ st < 1 by omega)) ?_
  repeat' (first | refine bsplit_true ?_ | refine bsplit_false ?_)
  refine ask_intro ⟨by show 0 ≤ at_; omega, by show at_ < (x.pln.length : Int); omega, rfl⟩ ?_
  repeat' (first | refine bsplit_true ?_ | refine bsplit_false ?_)
  refine chk_intro (by kernel_rfl) ?_
  refine bsplit_of_false (decide_eq_false (show ¬ st > (x.pln.getD at_.toNat ⟨0, 0⟩).steps by omega)) ?_
  refine bsplit_intro (fun h2 => ?_) (fun h2 => ?_)
  · exact ⟨⟨rfl, trivial⟩, rfl⟩
  have h2 : k ≠ 1000000 := by simpa using h2
  have hnx := hnx h2
  refine .inl ⟨_, _, rfl, hnx, rfl, ?_⟩
  refine bsplit_of_true (show ((nv == IntKind.i64.wrap (vv + 1)) == (gs == g)) = true by rw [hfin]; simp) ?_
  repeat' (first | refine bsplit_true ?_ | refine bsplit_false ?_)
  exact ⟨⟨congrArg Value.bool (decide_eq_true hfin2), trivial⟩, rfl⟩
end Go.Proofs.Ytdpahckfibnagaa.L

/- The law FnTurns answers true at every input that its statement lets in. -/
set_option linter.unusedVariables false
set_option maxRecDepth 100000
namespace Go.Proofs.Ytdpahckfibnagaa.L.FnTurns
open Go.RowKit Go.ChangeShapes Go.WideShapes Go.ChangeAt
theorem lifted (os : Os) (started : os.Started) (H : Type) (enc : TypeId × Value → H) :
    ReturnsInHanded {} Try.checked os 9 .any (Rows.fnTurnsSpec.pre6 enc Try.prog Try.f9 Rows.fnTurnsRow.domain false) (Rows.fnTurnsSpec.post enc Try.prog Try.f9 false true false false) := by
  refine returnsInHanded_of_change_sized (C := Try.checked) own started (by kernel_rfl) Try.func9
    (ChangeSpec.witness6 (enc := enc) (C := Try.checked) false ⟨#[], #[.slice none 0 0], []⟩ 8 (by kernel_rfl) (by kernel_rfl) (by kernel_rfl) (by kernel_rfl)) ?_
  intro W base args ds gs before hval0 hW hcnd hsz0 _
  have hsz : (DataW.weightsEach Try.prog (Try.f9.params.toList ++ Rows.fnTurnsSpec.plain.varTypes Try.prog) (ds ++ gs)).all (· ≤ reachBytes) = true := hsz0
  have hval : ∀ (j : Nat) t v, Try.f9.params[j]? = some t → args[j]? = some v → Value.okWide Try.prog W .any base t v := hval0
  have hW' := hW
  obtain ⟨p, q, hA0, hV, rfl, hfz, hnd⟩ := hW
  have hA : DataW.TrodAll enc Try.prog W 0 (fun _ => true) true Try.f9.params.toList args.toList ds p := hA0
  rw [Try.params9] at hA hval hsz
  obtain ⟨v0, vs0, d0, ds0, p0, q0, hargs, rfl, rfl, h0, r0⟩ := trodAll_cons hA
  obtain ⟨rfl, rfl, rfl⟩ := trodAll_nil r0
  obtain rfl : args = #[v0] := by cases args; simp_all
  obtain ⟨rfl, rfl⟩ := trodVars_none hV
  have hsm : ∀ k ∈ DataW.weightsEach Try.prog ([52] ++ Rows.fnTurnsSpec.plain.varTypes Try.prog) ([d0] ++ []), k ≤ reachBytes := fun k hk => by simpa using List.all_eq_true.1 hsz k hk
  have k0 := h0
  have lt0 : ∀ x ∈ p0, x.block < W.heap.size := by obtain ⟨m, hm⟩ := k0; exact DataW.trod_lt m _ _ _ hm
  have c0 : v0.cells = #[v0] := by have z := okWide_slice Try.underlying52 (hval 0 52 v0 rfl rfl); (first | (obtain ⟨_, rfl⟩ := z; rfl) | (obtain ⟨_, _, _, rfl⟩ := z; rfl))
  obtain ⟨m0, hm0, hvr0⟩ := reads_bytes.one c0 h0 (fun k hk => hsm k (DataW.weights_mem_each (j := 0) rfl rfl k hk))
  refine ((c_laws_FnTurns m0 hm0).calls W (Mem W) [v0] ⟨fun b hb => hb, fun g vs h => by cases h⟩ rfl (fun j hj => ?_)).mono fun e W' ⟨v, he, bel, hrr⟩ => ?_
  · match j, hj with
    | 0, _ => exact hvr0
    | j + 1, hj => exact absurd hj (by simp)
  · obtain ⟨us, J, hl, rfl, hJ, hok, _, _⟩ := hrr.ex
    have h1 := hok 0 _ rfl
    have h2 : RV.val us (rb true) = .bool true := h1
    rw [h2] at he
    subst he
    exact ⟨_, rfl, _, _, _, [], _, [], hW', trodAll_mk1 (shut_bool Try.underlying4 _), (trodAll_cons_mk (Below.trod laidOut (by kernel_rfl) (of_decide_eq_true (by kernel_rfl)) k0 bel lt0) trodAll_mk0), rfl, bel.frame _, fun h => by cases h⟩
theorem over : Rows.fnTurnsRow.holds Try.pinned (OpenSpec.ofChange Rows.fnTurnsSpec) :=
  OpenClaim.holds_of_wide 9 Try.f9 rfl rfl rfl rfl rfl rfl rfl ⟨rfl, rfl, rfl, rfl, rfl⟩ rfl rfl rfl rfl rfl (by kernel_rfl) Try.func9 (by kernel_rfl)
    (of_decide_eq_true (by kernel_rfl)) (by unfold Func.isWrapper; first | (rw [if_pos (by decide +kernel)]; kernel_rfl) | (rw [if_neg (by decide +kernel)]; exact ⟨rfl, rfl⟩))
    (fun os started H enc _ => lifted os started H enc)
end Go.Proofs.Ytdpahckfibnagaa.L.FnTurns
namespace Go.Proofs.Ytdpahckfibnagaa
theorem fnTurns_holds : Rows.FnTurnsSaid := L.FnTurns.over
#print axioms fnTurns_holds
end Go.Proofs.Ytdpahckfibnagaa
