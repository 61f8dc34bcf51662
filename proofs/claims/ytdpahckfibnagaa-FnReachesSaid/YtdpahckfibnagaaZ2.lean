/- The law FnReaches answers true at every input that its statement lets in. -/
import Derived.Test.YtdpahckfibnagaaMc
import Derived.Test.YtdpahckfibnagaaRows
import Derived.Test.YtdpahckfibnagaaZ1
/- Policies that are drawn: contracts. -/
set_option linter.unusedVariables false
set_option linter.unusedSimpArgs false
set_option maxRecDepth 100000
namespace Go.Proofs.Ytdpahckfibnagaa.L
open Go.RowKit
abbrev nil4 : List LV := [.d (.v (.slice none 0 0)), .d (.v (.slice none 0 0)), .d (.v (.slice none 0 0)), .d (.v (.slice none 0 0))]
abbrev rows4 (a b c d : Nat) : List LV := [.row a, .row b, .row c, .row d]
/-- a policy as it is drawn -/
structure PolM.drawn (x : PolM) : Prop where
  own : 1 ≤ x.own.length
  own3 : x.own.length ≤ 3
  ins : ∀ i, i < x.own.length → 1 ≤ (x.own.getD i []).length ∧ (x.own.getD i []).length ≤ 3
  lns : x.lns.length ≤ 3
  bls : x.bls.length ≤ 2
  pln : 1 ≤ x.pln.length
  pln4 : x.pln.length ≤ 4
theorem PolM.drawn.small {x : PolM} (h : x.drawn) : x.small := by
  obtain ⟨h1, h2, h3, h4, h5, h6, h7⟩ := h
  exact ⟨by omega, fun i hi => by have := h3 i hi; omega, by omega, by omega, by omega⟩
def insOK (l : List (List Int)) : Prop := ∀ i, i < l.length → 1 ≤ (l.getD i []).length ∧ (l.getD i []).length ≤ 3
theorem insOK_snoc {l : List (List Int)} {m : List Int} (h : insOK l) (h1 : 1 ≤ m.length) (h2 : m.length ≤ 3) : insOK (l ++ [m]) := by
  intro i hi
  simp only [List.length_append, List.length_cons, List.length_nil] at hi
  by_cases e : i < l.length
  · have := h i e
    simp only [List.getD] at this ⊢
    rw [List.getElem?_append_left e]
    exact this
  · have e : i = l.length := by omega
    subst e
    simp only [List.getD]
    rw [List.getElem?_append_right (Nat.le_refl _)]
    simp
    omega
theorem app_in (l : List (List Int)) (m : List Int) (j : Nat) (hj : j < l.length) : lenF l j = lenF (l ++ [m]) j ∧ ∀ q, inF l j q = inF (l ++ [m]) j q := by
  have e : (l ++ [m]).getD j [] = l.getD j [] := by simp only [List.getD]; rw [List.getElem?_append_left hj]
  exact ⟨by show (l.getD j []).length = ((l ++ [m]).getD j []).length; rw [e], fun q => by show intsF (l.getD j []) q = intsF ((l ++ [m]).getD j []) q; rw [e]⟩
theorem app_last (l : List (List Int)) (m : List Int) : (l ++ [m]).getD l.length [] = m := by simp [List.getD]
theorem LVLe.dptr {xs ys : List D} (hl : xs.length = ys.length) (h : ∀ j, j < xs.length → DLe (xs.getD j (.v undef)) (ys.getD j (.v undef))) : LVLe (.dptr xs) (.dptr ys) := fun W F v hv => by
  cases hv with
  | dptr vs hs hI hv hr => exact .dptr vs hs hI (fun j hj => hv j (by omega)) (fun j hj => h j (by omega) _ _ _ (hr j (by omega)))
theorem LVLe.dptr4 {a b c d a' b' c' d' : D} (h1 : DLe a a') (h2 : DLe b b') (h3 : DLe c c') (h4 : DLe d d') : LVLe (.dptr [a, b, c, d]) (.dptr [a', b', c', d']) := LVLe.dptr rfl fun j hj => match j, hj with
  | 0, _ => h1
  | 1, _ => h2
  | 2, _ => h3
  | 3, _ => h4
  | j + 4, hj => absurd hj (by simp)
theorem app_lane (lns : List LaneM) (z : LaneM) (g0 : Nat → List D) (q : Nat) (hq : q < lns.length + 1) : upto (0 + lns.length) (upto 0 g0 (lanesF lns)) (fun i => ([laneD z] : List (List D)).getD i []) q = lanesF (lns ++ [z]) q := by
  unfold upto
  by_cases h : q < lns.length
  · rw [if_pos (by omega), if_neg (Nat.not_lt_zero _)]
    show laneD (lns.getD (q - 0) _) = laneD ((lns ++ [z]).getD q _)
    simp only [List.getD, Nat.sub_zero]
    rw [List.getElem?_append_left h]
  · rw [if_neg (by omega)]
    obtain rfl : q = lns.length := by omega
    rw [Nat.zero_add, Nat.sub_self]
    show laneD z = laneD ((lns ++ [z]).getD lns.length _)
    simp [List.getD]
theorem app_bell (l : List BellM) (z : BellM) (q : Nat) (hq : q < l.length + 1) : upto l.length (bellsF l) (fun i => ([bellD z] : List (List D)).getD i []) q = bellsF (l ++ [z]) q := by
  unfold upto
  by_cases h : q < l.length
  · rw [if_pos h]
    show bellD (l.getD q _) = bellD ((l ++ [z]).getD q _)
    simp only [List.getD]
    rw [List.getElem?_append_left h]
  · rw [if_neg h]
    obtain rfl : q = l.length := by omega
    rw [Nat.sub_self]
    show bellD z = bellD ((l ++ [z]).getD l.length _)
    simp [List.getD]
theorem app_slot (l : List SlotM) (z : SlotM) (q : Nat) (hq : q < l.length + 1) : upto l.length (slotsF l) (fun i => ([slotD z] : List (List D)).getD i []) q = slotsF (l ++ [z]) q := by
  unfold upto
  by_cases h : q < l.length
  · rw [if_pos h]
    show slotD (l.getD q _) = slotD ((l ++ [z]).getD q _)
    simp only [List.getD]
    rw [List.getElem?_append_left h]
  · rw [if_neg h]
    obtain rfl : q = l.length := by omega
    rw [Nat.sub_self]
    show slotD z = slotD ((l ++ [z]).getD l.length _)
    simp [List.getD]
set_option maxHeartbeats 3200000 in
theorem c_spec_l6Policy (c : List Int) (hc : okCode c) (p : Int) (hp : 0 ≤ p) (hp2 : p ≤ 1099511627) : MutS Try.prog 134 [.ptr 0 0] 1 [(0, srcBox c p)]
    (fun lv m' hp1 => ∃ (x : PolM) (q : Int), x.drawn ∧ p ≤ q ∧ q ≤ p + 60 ∧ lv = .agg (rows4 1 2 3 4) ∧ m' = 5 ∧ hp1 = [(0, srcBox c q), (1, nestE x.own), (2, rowLane x.lns), (3, rowBell x.bls), (4, rowSlot x.pln)]) := by
  have h4 := nx_in (c := c) hc (p := p) (n := 3) (by omega) (by omega)
  have h5 := pk_mem (c := c) hc (p := p + 1) (l := [2, 3, 3, 1]) (by omega) (by simp)
  have h5 : 1 ≤ pk c (p + 1) [2, 3, 3, 1] ∧ pk c (p + 1) [2, 3, 3, 1] ≤ 3 := by
    revert h5
    generalize pk c (p + 1) [2, 3, 3, 1] = v
    intro h5
    simp at h5
    omega
  refine mutS_fn_of lv134 Try.func134 rfl rfl (by kernel_rfl) rfl ?_
  repeat' (first | refine bsplit_true ?_ | refine bsplit_false ?_ | (refine .inr ⟨rfl, use_mut ⟨?_, ?_, ?_, ?_, ?_, ?_, ?_, ?_, ?_, ?_, ?_⟩⟩; rotate_left 6; exact rfl; exact rfl; (first | (refine c_spec_l1Next c hc _ _ ?_ ?_ <;> (first | omega | (dsimp only; omega))) | (refine pick3 c hc _ _ _ _ ?_ ?_ <;> (first | omega | (dsimp only; omega))) | (refine pick4 c hc _ _ _ _ _ ?_ ?_ <;> (first | omega | (dsimp only; omega))) | (refine pick2 c hc _ _ _ ?_ ?_ <;> (first | omega | (dsimp only; omega))) | (refine pick6 c hc _ _ _ _ _ _ _ ?_ ?_ <;> (first | omega | (dsimp only; omega))) | (refine pick7 c hc _ _ _ _ _ _ _ _ ?_ ?_ <;> (first | omega | (dsimp only; omega))) | (refine pick5 c hc _ _ _ _ _ _ ?_ ?_ <;> (first | omega | (dsimp only; omega)))); rfl))
  refine ⟨{ x : List (List Int) × Int × Int × Int // insOK x.1 ∧ 0 ≤ x.2.2.1 ∧ 1 ≤ (x.1.length : Int) + x.2.2.1 ∧ (x.1.length : Int) + x.2.2.1 ≤ 3 ∧ p ≤ x.2.2.2 ∧ x.2.2.2 ≤ p + 2 + x.1.length }, fun x => ⟨frL [(0, .ptr 0 0), (2, .ptr 10 0), (3, .ptr 11 0), (4, di x.1.2.1), (5, di x.1.2.2.1)], hpL [(0, srcBox c x.1.2.2.2), (10, .box 34 nil4), (11, .box 34 (rows4 12 13 14 15)), (12, nestE x.1.1), (13, rowLane []), (14, rowBell []), (15, rowSlot [])], 100, 1⟩, fun x => x.1.2.2.1.toNat,
    ⟨([], nx c p 3, pk c (p + 1) [2, 3, 3, 1], p + 1 + 1), fun i hi => absurd hi (Nat.not_lt_zero _), by show 0 ≤ pk c (p + 1) [2, 3, 3, 1]; omega, by show 1 ≤ ((0 : Nat) : Int) + pk c (p + 1) [2, 3, 3, 1]; omega, by show ((0 : Nat) : Int) + pk c (p + 1) [2, 3, 3, 1] ≤ 3; omega, by show p ≤ p + 1 + 1; omega, by show p + 1 + 1 ≤ p + 2 + ((0 : Nat) : Int); omega⟩,
    Le.trans (nilBox (k := 4129) (i := 0) (t := 34) (cs := nil4) rfl rfl (nestE []) rfl rfl) (Le.trans (nilBox (k := 4129) (i := 1) (t := 34) (cs := [.row 16385, .d (.v (.slice none 0 0)), .d (.v (.slice none 0 0)), .d (.v (.slice none 0 0))]) rfl rfl (rowLane []) rfl rfl) (Le.trans (nilBox (k := 4129) (i := 2) (t := 34) (cs := [.row 16385, .row 16386, .d (.v (.slice none 0 0)), .d (.v (.slice none 0 0))]) rfl rfl (rowBell []) rfl rfl) (Le.trans (nilBox (k := 4129) (i := 3) (t := 34) (cs := [.row 16385, .row 16386, .row 16387, .d (.v (.slice none 0 0))]) rfl rfl (rowSlot []) rfl rfl)
    (le_of [(10, 1), (11, 4129), (12, 16385), (13, 16386), (14, 16387), (15, 16388)] rfl rfl rfl rfl (tellHp_box rfl rfl ⟨DLe.refl _, rfl, trivial⟩ (tellHp_box rfl rfl ⟨rfl, rfl, rfl, rfl, trivial⟩ (tellHp_box rfl rfl ⟨rfl, rfl, rfl, rfl, trivial⟩ (tellHp_nest rfl rfl rfl (fun i hi => absurd hi (Nat.not_lt_zero _)) (tellHp_row rfl rfl rfl (fun j hj => rfl) (tellHp_row rfl rfl rfl (fun j hj => rfl) (tellHp_row rfl rfl rfl (fun j hj => rfl) tellHp_nil)))))))
      (tellFr_ptr rfl rfl (tellFr_ptr rfl rfl (tellFr_ptr rfl rfl (tellFr_v rfl rfl (tellFr_v rfl rfl trivial))))))))), ?_⟩
  rintro ⟨⟨l, pg, g, q⟩, hI, hg0, hg1, hg3, hq1, hq2⟩
  simp only at hI hg0 hg1 hg3 hq1 hq2
  by_cases hg : 0 < g
  · have hn := nx_in (c := c) hc (p := q) (n := 3) (by omega) (by omega)
    have hw : IntKind.i64.wrap (1 + nx c q 3) = 1 + nx c q 3 := wrap_i64 _ (by omega) (by omega)
    have hwg : IntKind.i64.wrap (g - 1) = g - 1 := wrap_i64 _ (by omega) (by omega)
    refine bsplit_of_true (decide_eq_true (show g > 0 by omega)) ?_
    repeat' (first | refine bsplit_true ?_ | refine bsplit_false ?_ | (refine .inr ⟨rfl, use_mut ⟨?_, ?_, ?_, ?_, ?_, ?_, ?_, ?_, ?_, ?_, ?_⟩⟩; rotate_left 6; exact rfl; exact rfl; (first | (refine c_spec_l1Next c hc _ _ ?_ ?_ <;> (first | omega | (dsimp only; omega))) | (refine pick3 c hc _ _ _ _ ?_ ?_ <;> (first | omega | (dsimp only; omega))) | (refine pick4 c hc _ _ _ _ _ ?_ ?_ <;> (first | omega | (dsimp only; omega))) | (refine pick2 c hc _ _ _ ?_ ?_ <;> (first | omega | (dsimp only; omega))) | (refine pick6 c hc _ _ _ _ _ _ _ ?_ ?_ <;> (first | omega | (dsimp only; omega))) | (refine pick7 c hc _ _ _ _ _ _ _ _ ?_ ?_ <;> (first | omega | (dsimp only; omega))) | (refine pick5 c hc _ _ _ _ _ _ ?_ ?_ <;> (first | omega | (dsimp only; omega)))); rfl))
    refine ⟨{ x : List Int × Int × Int // 0 ≤ x.2.2 ∧ 1 ≤ (x.1.length : Int) + x.2.2 ∧ (x.1.length : Int) + x.2.2 ≤ 3 }, fun x => ⟨frL [(0, .ptr 0 0), (2, .ptr 10 0), (3, .ptr 11 0), (4, di x.1.2.1), (5, di g), (6, .row 16), (7, di x.1.2.2)], hpL [(0, srcBox c (q + 1)), (10, .box 34 nil4), (11, .box 34 (rows4 12 13 14 15)), (12, nestE l), (13, rowLane []), (14, rowBell []), (15, rowSlot []), (16, rowE x.1.1)], 100, 1⟩, fun x => x.1.2.2.toNat,
      ⟨([], pg, 1 + nx c q 3), by show 0 ≤ 1 + nx c q 3; omega, by show 1 ≤ ((0 : Nat) : Int) + (1 + nx c q 3); omega, by show ((0 : Nat) : Int) + (1 + nx c q 3) ≤ 3; omega⟩,
      le_of [(10, 10), (11, 11), (12, 12), (13, 13), (14, 14), (15, 15), (16, 4196)] rfl rfl rfl rfl (tellHp_box rfl rfl ⟨DLe.refl _, rfl, trivial⟩ (tellHp_box rfl rfl ⟨rfl, rfl, rfl, rfl, trivial⟩ (tellHp_box rfl rfl ⟨rfl, rfl, rfl, rfl, trivial⟩ (tellHp_nest rfl rfl rfl (fun i hi => ⟨rfl, fun j hj => rfl⟩) (tellHp_row rfl rfl rfl (fun j hj => rfl) (tellHp_row rfl rfl rfl (fun j hj => rfl) (tellHp_row rfl rfl rfl (fun j hj => rfl) (tellHp_row rfl rfl rfl (fun j hj => absurd hj (Nat.not_lt_zero _)) tellHp_nil))))))))
        (tellFr_ptr rfl rfl (tellFr_ptr rfl rfl (tellFr_ptr rfl rfl (tellFr_v rfl rfl (tellFr_v rfl rfl (tellFr_row rfl rfl (tellFr_v rfl (congrArg (Value.int .i64) hw) trivial))))))), ?_⟩
    rintro ⟨⟨m, pg, k⟩, hk0, hk1, hk3⟩
    simp only at hk0 hk1 hk3
    by_cases hk : 0 < k
    · have hwk : IntKind.i64.wrap (k - 1) = k - 1 := wrap_i64 _ (by omega) (by omega)
      have hsl : (m ++ [pg]).length = m.length + 1 := by simp
      refine bsplit_of_true (decide_eq_true (show k > 0 by omega)) ?_
      refine ask_intro ⟨by show (m.length + 1) * 8 ≤ 140737488355328; omega, by show m.length + 1 ≤ 9223372036854775807; omega, fun q hq => ?_⟩ ?_
      · obtain rfl : q = 0 := by omega
        rfl
      exact ⟨⟨(m ++ [pg], IntKind.i64.wrap (pg + 1), k - 1), by show 0 ≤ k - 1; omega, by show 1 ≤ ((m ++ [pg]).length : Int) + (k - 1); omega, by show ((m ++ [pg]).length : Int) + (k - 1) ≤ 3; omega⟩,
        le_of [(10, 10), (11, 11), (12, 12), (13, 13), (14, 14), (15, 15), (16, 4292)] rfl rfl rfl rfl (tellHp_box rfl rfl ⟨DLe.refl _, rfl, trivial⟩ (tellHp_box rfl rfl ⟨rfl, rfl, rfl, rfl, trivial⟩ (tellHp_box rfl rfl ⟨rfl, rfl, rfl, rfl, trivial⟩ (tellHp_nest rfl rfl rfl (fun i hi => ⟨rfl, fun j hj => rfl⟩) (tellHp_row rfl rfl rfl (fun j hj => rfl) (tellHp_row rfl rfl rfl (fun j hj => rfl) (tellHp_row rfl rfl rfl (fun j hj => rfl) (tellHp_row rfl rfl hsl.symm (fun q hq => upto_snoc m _ _ rfl q hq) tellHp_nil))))))))
          (tellFr_ptr rfl rfl (tellFr_ptr rfl rfl (tellFr_ptr rfl rfl (tellFr_v rfl rfl (tellFr_v rfl rfl (tellFr_row rfl rfl (tellFr_v rfl (congrArg (Value.int .i64) hwk) trivial))))))), by show (k - 1).toNat < k.toNat; omega⟩
    · have hsl : (l ++ [m]).length = l.length + 1 := by simp
      have hm1 : 1 ≤ m.length := by omega
      have hm3 : m.length ≤ 3 := by omega
      have hl3 : l.length ≤ 3 := by omega
      refine bsplit_of_false (decide_eq_false (show ¬ k > 0 by omega)) ?_
      refine ask_intro trivial ?_
      refine ask_intro ⟨by show (l.length + 1) * 24 ≤ 140737488355328; omega, by show l.length + 1 ≤ 9223372036854775807; omega, trivial⟩ ?_
      refine ⟨⟨(l ++ [m], pg, g - 1, q + 1), insOK_snoc hI hm1 hm3, by show 0 ≤ g - 1; omega, by show 1 ≤ ((l ++ [m]).length : Int) + (g - 1); omega, by show ((l ++ [m]).length : Int) + (g - 1) ≤ 3; omega, by show p ≤ q + 1; omega, by show q + 1 ≤ p + 2 + ((l ++ [m]).length : Int); omega⟩,
        le_of [(10, 10), (11, 11), (12, 4324), (13, 13), (14, 14), (15, 15)] rfl rfl rfl rfl (tellHp_box rfl rfl ⟨DLe.refl _, rfl, trivial⟩ (tellHp_box rfl rfl ⟨rfl, rfl, rfl, rfl, trivial⟩ (tellHp_box rfl rfl ⟨rfl, rfl, rfl, rfl, trivial⟩ (tellHp_hole rfl rfl rfl rfl rfl hsl.symm ⟨?_, fun j hj => ?_⟩ (fun j hj hne => ⟨?_, fun u hu => ?_⟩) (tellHp_row rfl rfl rfl (fun j hj => rfl) (tellHp_row rfl rfl rfl (fun j hj => rfl) (tellHp_row rfl rfl rfl (fun j hj => rfl) tellHp_nil)))))))
          (tellFr_ptr rfl rfl (tellFr_ptr rfl rfl (tellFr_ptr rfl rfl (tellFr_v rfl rfl (tellFr_v rfl (congrArg (Value.int .i64) hwg) trivial))))), by show (g - 1).toNat < g.toNat; omega⟩
      · show m.length = ((l ++ [m]).getD l.length []).length
        rw [app_last]
      · show intsF m j = intsF ((l ++ [m]).getD l.length []) j
        rw [app_last]
      · have hj : j < l.length + 1 := hj
        have hne : j ≠ l.length := hne
        show (if j < l.length then lenF l j else 0) = _
        rw [if_pos (by omega)]
        exact (app_in l m j (by omega)).1
      · have hj : j < l.length + 1 := hj
        have hne : j ≠ l.length := hne
        show (if j < l.length then inF l j else fun _ => []) u = _
        rw [if_pos (by omega)]
        exact (app_in l m j (by omega)).2 u
  · have hl0 : 1 ≤ l.length := by omega
    have hl3 : l.length ≤ 3 := by omega
    refine bsplit_of_false (decide_eq_false (show ¬ g > 0 by omega)) ?_
    have hn4 := nx_in (c := c) hc (p := q) (n := 4) (by omega) (by omega)
    refine ask_intro trivial ?_
    repeat' (first | refine bsplit_true ?_ | refine bsplit_false ?_ | (refine .inr ⟨rfl, use_mut ⟨?_, ?_, ?_, ?_, ?_, ?_, ?_, ?_, ?_, ?_, ?_⟩⟩; rotate_left 6; exact rfl; exact rfl; (first | (refine c_spec_l1Next c hc _ _ ?_ ?_ <;> (first | omega | (dsimp only; omega))) | (refine pick3 c hc _ _ _ _ ?_ ?_ <;> (first | omega | (dsimp only; omega))) | (refine pick4 c hc _ _ _ _ _ ?_ ?_ <;> (first | omega | (dsimp only; omega))) | (refine pick2 c hc _ _ _ ?_ ?_ <;> (first | omega | (dsimp only; omega))) | (refine pick6 c hc _ _ _ _ _ _ _ ?_ ?_ <;> (first | omega | (dsimp only; omega))) | (refine pick7 c hc _ _ _ _ _ _ _ _ ?_ ?_ <;> (first | omega | (dsimp only; omega))) | (refine pick5 c hc _ _ _ _ _ _ ?_ ?_ <;> (first | omega | (dsimp only; omega)))); rfl))
    refine ⟨{ x : List LaneM × Int × Int × Int // 0 ≤ x.2.2.1 ∧ (x.1.length : Int) + x.2.2.1 ≤ 3 ∧ p ≤ x.2.2.2 ∧ x.2.2.2 + 4 * x.2.2.1 ≤ p + 18 }, fun x => ⟨frL [(0, .ptr 0 0), (2, .ptr 10 0), (3, .ptr 11 0), (4, di x.1.2.1), (8, di l.length), (9, di x.1.2.2.1)], hpL [(0, srcBox c x.1.2.2.2), (10, .box 34 nil4), (11, .box 34 (rows4 12 13 14 15)), (12, nestE l), (13, rowLane x.1.1), (14, rowBell []), (15, rowSlot [])], 100, 1⟩, fun x => x.1.2.2.1.toNat,
      ⟨([], pg, nx c q 4, q + 1), by show 0 ≤ nx c q 4; omega, by show ((0 : Nat) : Int) + nx c q 4 ≤ 3; omega, by show p ≤ q + 1; omega, by show q + 1 + 4 * nx c q 4 ≤ p + 18; omega⟩,
      le_of [(10, 10), (11, 11), (12, 12), (13, 13), (14, 14), (15, 15)] rfl rfl rfl rfl (tellHp_box rfl rfl ⟨DLe.refl _, rfl, trivial⟩ (tellHp_box rfl rfl ⟨rfl, rfl, rfl, rfl, trivial⟩ (tellHp_box rfl rfl ⟨rfl, rfl, rfl, rfl, trivial⟩ (tellHp_nest rfl rfl rfl (fun i hi => ⟨rfl, fun j hj => rfl⟩) (tellHp_row rfl rfl rfl (fun j hj => rfl) (tellHp_row rfl rfl rfl (fun j hj => rfl) (tellHp_row rfl rfl rfl (fun j hj => rfl) tellHp_nil)))))))
        (tellFr_ptr rfl rfl (tellFr_ptr rfl rfl (tellFr_ptr rfl rfl (tellFr_v rfl rfl (tellFr_v rfl rfl (tellFr_v rfl rfl trivial)))))), ?_⟩
    clear hn4
    rintro ⟨⟨lns, pg, k, q⟩, hk0, hk3, hq1, hq2⟩
    simp only at hk0 hk3 hq1 hq2
    by_cases hk : 0 < k
    · have hwk : IntKind.i64.wrap (k - 1) = k - 1 := wrap_i64 _ (by omega) (by omega)
      obtain ⟨z, hz⟩ : ∃ z : LaneM, z = ⟨nx c q l.length, nx c (q + 1) l.length, pg, IntKind.i64.wrap (5 + nx c (q + 1 + 1) 2), IntKind.i64.wrap (5 + nx c (q + 1 + 1 + 1) 2)⟩ := ⟨_, rfl⟩
      have hsl : (lns ++ [z]).length = lns.length + 1 := by simp
      have hx : PolM.small ⟨l, lns ++ [z], [], []⟩ := ⟨by show l.length * 24 ≤ 140737488355328; omega, fun i hi => by have := hI i hi; show (l.getD i []).length * 8 ≤ 140737488355328; omega, by show (lns ++ [z]).length * 40 ≤ 140737488355328; omega, by show (0 : Nat) * 16 ≤ 140737488355328; omega, by show (0 : Nat) * 16 ≤ 140737488355328; omega⟩
      have c1 := c_spec_l6Owns ⟨l, lns ++ [z], [], []⟩ hx
      have c2 := c_spec_l6Lanes ⟨l, lns ++ [z], [], []⟩ hx
      have hld := fun (g0 : Nat → List D) => app_lane lns z g0
      rw [hz] at hld
      have hle : ∀ g0, DLe (.l (0 + lns.length + 1) (upto (0 + lns.length) (upto 0 g0 (lanesF lns)) (fun i => ([laneD ⟨nx c q l.length, nx c (q + 1) l.length, pg, IntKind.i64.wrap (5 + nx c (q + 1 + 1) 2), IntKind.i64.wrap (5 + nx c (q + 1 + 1 + 1) 2)⟩] : List (List D)).getD i []))) (lanes (lns ++ [z])) := fun g0 => DLe.l (by rw [hsl]; omega) fun i hi => by rw [hz]; exact hld g0 i (by omega)
      have hld2 : ∀ (g0 : Nat → List D) (i : Nat), i < lns.length + 1 → upto (0 + lns.length) (upto 0 g0 (lanesF lns)) (fun i => ([laneD ⟨nx c q l.length, nx c (q + 1) l.length, pg, IntKind.i64.wrap (5 + nx c (q + 1 + 1) 2), IntKind.i64.wrap (5 + nx c (q + 1 + 1 + 1) 2)⟩] : List (List D)).getD i []) i = lanesF (lns ++ [z]) i := fun g0 i hi => by rw [hz]; exact hld g0 i hi
      obtain ⟨v1, hv1⟩ : ∃ v1, v1 = ownBad (PolM.own ⟨l, lns ++ [z], [], []⟩) := ⟨_, rfl⟩
      obtain ⟨v2, hv2⟩ : ∃ v2, v2 = lanesFault ⟨l, lns ++ [z], [], []⟩ := ⟨_, rfl⟩
      rw [← hv1] at c1
      rw [← hv2] at c2
      refine bsplit_of_true (decide_eq_true (show k > 0 by omega)) ?_
      refine ask_intro ⟨by show (0 + lns.length) * 40 ≤ 140737488355328; omega, by show 0 + lns.length ≤ 9223372036854775807; omega, fun i hi => rfl⟩ ?_
      repeat' (first | refine bsplit_true ?_ | refine bsplit_false ?_ | (refine .inr ⟨rfl, use_mut ⟨?_, ?_, ?_, ?_, ?_, ?_, ?_, ?_, ?_, ?_, ?_⟩⟩; rotate_left 6; exact rfl; exact rfl; (first | (refine c_spec_l1Next c hc _ _ ?_ ?_ <;> (first | omega | (dsimp only; omega))) | (refine pick3 c hc _ _ _ _ ?_ ?_ <;> (first | omega | (dsimp only; omega))) | (refine pick4 c hc _ _ _ _ _ ?_ ?_ <;> (first | omega | (dsimp only; omega))) | (refine pick2 c hc _ _ _ ?_ ?_ <;> (first | omega | (dsimp only; omega))) | (refine pick6 c hc _ _ _ _ _ _ _ ?_ ?_ <;> (first | omega | (dsimp only; omega))) | (refine pick7 c hc _ _ _ _ _ _ _ _ ?_ ?_ <;> (first | omega | (dsimp only; omega))) | (refine pick5 c hc _ _ _ _ _ _ ?_ ?_ <;> (first | omega | (dsimp only; omega)))); rfl))
      refine ask_intro ⟨by show (0 + lns.length + 1) * 40 ≤ 140737488355328; omega, by show 0 + lns.length + 1 ≤ 9223372036854775807; omega, fun i hi => ?_⟩ ?_
      · obtain rfl : i = 0 := by omega
        rfl
      refine .inl ⟨_, _, rfl, c1.weak ⟨LVLe.dptr4 (DLe.refl _) (hle _) (DLe.refl _) (DLe.refl _), trivial⟩, rfl, ?_⟩
      refine bsplit_intro (fun e1 => ?_) (fun e1 => ?_)
      · refine .inl ⟨_, _, rfl, c2.weak ⟨LVLe.dptr4 (DLe.refl _) (hle _) (DLe.refl _) (DLe.refl _), trivial⟩, rfl, ?_⟩
        repeat' (first | refine bsplit_true ?_ | refine bsplit_false ?_)
        refine bsplit_intro (fun e2 => ?_) (fun e2 => ?_)
        · exact ⟨⟨(lns ++ [z], IntKind.i64.wrap (pg + 1), k - 1, q + 1 + 1 + 1 + 1), by show 0 ≤ k - 1; omega, by show ((lns ++ [z]).length : Int) + (k - 1) ≤ 3; omega, by show p ≤ q + 1 + 1 + 1 + 1; omega, by show q + 1 + 1 + 1 + 1 + 4 * (k - 1) ≤ p + 18; omega⟩,
            le_of [(10, 10), (11, 11), (12, 12), (13, 8900), (14, 14), (15, 15)] rfl rfl rfl rfl (tellHp_box rfl rfl ⟨DLe.refl _, rfl, trivial⟩ (tellHp_box rfl rfl ⟨rfl, rfl, rfl, rfl, trivial⟩ (tellHp_box rfl rfl ⟨rfl, rfl, rfl, rfl, trivial⟩ (tellHp_nest rfl rfl rfl (fun i hi => ⟨rfl, fun j hj => rfl⟩) (tellHp_row rfl rfl (show 0 + lns.length + 1 = (lns ++ [z]).length by rw [hsl]; omega) (fun i hi => hld2 _ i (by have hi : i < 0 + lns.length + 1 := hi; omega)) (tellHp_row rfl rfl rfl (fun j hj => rfl) (tellHp_row rfl rfl rfl (fun j hj => rfl) tellHp_nil)))))))
              (tellFr_ptr rfl rfl (tellFr_ptr rfl rfl (tellFr_ptr rfl rfl (tellFr_v rfl rfl (tellFr_v rfl rfl (tellFr_v rfl (congrArg (Value.int .i64) hwk) trivial)))))), by show (k - 1).toNat < k.toNat; omega⟩
        · exact ⟨⟨(lns, pg, k - 1, q + 1 + 1 + 1 + 1), by show 0 ≤ k - 1; omega, by show (lns.length : Int) + (k - 1) ≤ 3; omega, by show p ≤ q + 1 + 1 + 1 + 1; omega, by show q + 1 + 1 + 1 + 1 + 4 * (k - 1) ≤ p + 18; omega⟩,
          le_of [(10, 10), (11, 11), (12, 12), (13, 13), (14, 14), (15, 15)] rfl rfl rfl rfl (tellHp_box rfl rfl ⟨DLe.refl _, rfl, trivial⟩ (tellHp_box rfl rfl ⟨rfl, rfl, rfl, rfl, trivial⟩ (tellHp_box rfl rfl ⟨rfl, rfl, rfl, rfl, trivial⟩ (tellHp_nest rfl rfl rfl (fun i hi => ⟨rfl, fun j hj => rfl⟩) (tellHp_row rfl rfl rfl (fun j hj => rfl) (tellHp_row rfl rfl rfl (fun j hj => rfl) (tellHp_row rfl rfl rfl (fun j hj => rfl) tellHp_nil)))))))
            (tellFr_ptr rfl rfl (tellFr_ptr rfl rfl (tellFr_ptr rfl rfl (tellFr_v rfl rfl (tellFr_v rfl rfl (tellFr_v rfl (congrArg (Value.int .i64) hwk) trivial)))))), by show (k - 1).toNat < k.toNat; omega⟩
      · repeat' (first | refine bsplit_true ?_ | refine bsplit_false ?_)
        exact ⟨⟨(lns, pg, k - 1, q + 1 + 1 + 1 + 1), by show 0 ≤ k - 1; omega, by show (lns.length : Int) + (k - 1) ≤ 3; omega, by show p ≤ q + 1 + 1 + 1 + 1; omega, by show q + 1 + 1 + 1 + 1 + 4 * (k - 1) ≤ p + 18; omega⟩,
          le_of [(10, 10), (11, 11), (12, 12), (13, 13), (14, 14), (15, 15)] rfl rfl rfl rfl (tellHp_box rfl rfl ⟨DLe.refl _, rfl, trivial⟩ (tellHp_box rfl rfl ⟨rfl, rfl, rfl, rfl, trivial⟩ (tellHp_box rfl rfl ⟨rfl, rfl, rfl, rfl, trivial⟩ (tellHp_nest rfl rfl rfl (fun i hi => ⟨rfl, fun j hj => rfl⟩) (tellHp_row rfl rfl rfl (fun j hj => rfl) (tellHp_row rfl rfl rfl (fun j hj => rfl) (tellHp_row rfl rfl rfl (fun j hj => rfl) tellHp_nil)))))))
            (tellFr_ptr rfl rfl (tellFr_ptr rfl rfl (tellFr_ptr rfl rfl (tellFr_v rfl rfl (tellFr_v rfl rfl (tellFr_v rfl (congrArg (Value.int .i64) hwk) trivial)))))), by show (k - 1).toNat < k.toNat; omega⟩
    · refine bsplit_of_false (decide_eq_false (show ¬ k > 0 by omega)) ?_
      have hn3 := nx_in (c := c) hc (p := q) (n := 3) (by omega) (by omega)
      have hL3 : lns.length ≤ 3 := by omega
      repeat' (first | refine bsplit_true ?_ | refine bsplit_false ?_ | (refine .inr ⟨rfl, use_mut ⟨?_, ?_, ?_, ?_, ?_, ?_, ?_, ?_, ?_, ?_, ?_⟩⟩; rotate_left 6; exact rfl; exact rfl; (first | (refine c_spec_l1Next c hc _ _ ?_ ?_ <;> (first | omega | (dsimp only; omega))) | (refine pick3 c hc _ _ _ _ ?_ ?_ <;> (first | omega | (dsimp only; omega))) | (refine pick4 c hc _ _ _ _ _ ?_ ?_ <;> (first | omega | (dsimp only; omega))) | (refine pick2 c hc _ _ _ ?_ ?_ <;> (first | omega | (dsimp only; omega))) | (refine pick6 c hc _ _ _ _ _ _ _ ?_ ?_ <;> (first | omega | (dsimp only; omega))) | (refine pick7 c hc _ _ _ _ _ _ _ _ ?_ ?_ <;> (first | omega | (dsimp only; omega))) | (refine pick5 c hc _ _ _ _ _ _ ?_ ?_ <;> (first | omega | (dsimp only; omega)))); rfl))
      refine ⟨{ x : List BellM × Int × Int // 0 ≤ x.2.1 ∧ (x.1.length : Int) + x.2.1 ≤ 2 ∧ p ≤ x.2.2 ∧ x.2.2 + 2 * x.2.1 ≤ p + 23 }, fun x => ⟨frL [(0, .ptr 0 0), (2, .ptr 10 0), (3, .ptr 11 0), (8, di l.length), (11, di x.1.2.1)], hpL [(0, srcBox c x.1.2.2), (10, .box 34 nil4), (11, .box 34 (rows4 12 13 14 15)), (12, nestE l), (13, rowLane lns), (14, rowBell x.1.1), (15, rowSlot [])], 100, 1⟩, fun x => x.1.2.1.toNat,
        ⟨([], nx c q 3, q + 1), by show 0 ≤ nx c q 3; omega, by show ((0 : Nat) : Int) + nx c q 3 ≤ 2; omega, by show p ≤ q + 1; omega, by show q + 1 + 2 * nx c q 3 ≤ p + 23; omega⟩,
        le_of [(10, 10), (11, 11), (12, 12), (13, 13), (14, 14), (15, 15)] rfl rfl rfl rfl (tellHp_box rfl rfl ⟨DLe.refl _, rfl, trivial⟩ (tellHp_box rfl rfl ⟨rfl, rfl, rfl, rfl, trivial⟩ (tellHp_box rfl rfl ⟨rfl, rfl, rfl, rfl, trivial⟩ (tellHp_nest rfl rfl rfl (fun i hi => ⟨rfl, fun j hj => rfl⟩) (tellHp_row rfl rfl rfl (fun j hj => rfl) (tellHp_row rfl rfl rfl (fun j hj => rfl) (tellHp_row rfl rfl rfl (fun j hj => rfl) tellHp_nil)))))))
          (tellFr_ptr rfl rfl (tellFr_ptr rfl rfl (tellFr_ptr rfl rfl (tellFr_v rfl rfl (tellFr_v rfl rfl trivial))))), ?_⟩
      clear hn3
      rintro ⟨⟨bls, k, q⟩, hk0, hk3, hq1, hq2⟩
      simp only at hk0 hk3 hq1 hq2
      by_cases hk : 0 < k
      · have hwk : IntKind.i64.wrap (k - 1) = k - 1 := wrap_i64 _ (by omega) (by omega)
        have hz := app_bell bls ⟨nx c q l.length, nx c (q + 1) l.length⟩
        have hsl : (bls ++ [(⟨nx c q l.length, nx c (q + 1) l.length⟩ : BellM)]).length = bls.length + 1 := by simp
        refine bsplit_of_true (decide_eq_true (show k > 0 by omega)) ?_
        repeat' (first | refine bsplit_true ?_ | refine bsplit_false ?_ | (refine .inr ⟨rfl, use_mut ⟨?_, ?_, ?_, ?_, ?_, ?_, ?_, ?_, ?_, ?_, ?_⟩⟩; rotate_left 6; exact rfl; exact rfl; (first | (refine c_spec_l1Next c hc _ _ ?_ ?_ <;> (first | omega | (dsimp only; omega))) | (refine pick3 c hc _ _ _ _ ?_ ?_ <;> (first | omega | (dsimp only; omega))) | (refine pick4 c hc _ _ _ _ _ ?_ ?_ <;> (first | omega | (dsimp only; omega))) | (refine pick2 c hc _ _ _ ?_ ?_ <;> (first | omega | (dsimp only; omega))) | (refine pick6 c hc _ _ _ _ _ _ _ ?_ ?_ <;> (first | omega | (dsimp only; omega))) | (refine pick7 c hc _ _ _ _ _ _ _ _ ?_ ?_ <;> (first | omega | (dsimp only; omega))) | (refine pick5 c hc _ _ _ _ _ _ ?_ ?_ <;> (first | omega | (dsimp only; omega)))); rfl))
        refine bsplit_intro (fun e1 => ?_) (fun e1 => ?_)
        · repeat' (first | refine bsplit_true ?_ | refine bsplit_false ?_)
          refine bsplit_intro (fun e2 => ?_) (fun e2 => ?_)
          · refine ask_intro ⟨by show (bls.length + 1) * 16 ≤ 140737488355328; omega, by show bls.length + 1 ≤ 9223372036854775807; omega, fun i hi => ?_⟩ ?_
            · obtain rfl : i = 0 := by omega
              rfl
            exact ⟨⟨(bls ++ [(⟨nx c q l.length, nx c (q + 1) l.length⟩ : BellM)], k - 1, q + 1 + 1), by show 0 ≤ k - 1; omega, by show ((bls ++ [(⟨nx c q l.length, nx c (q + 1) l.length⟩ : BellM)]).length : Int) + (k - 1) ≤ 2; omega, by show p ≤ q + 1 + 1; omega, by show q + 1 + 1 + 2 * (k - 1) ≤ p + 23; omega⟩,
              le_of [(10, 10), (11, 11), (12, 12), (13, 13), (14, 12516), (15, 15)] rfl rfl rfl rfl (tellHp_box rfl rfl ⟨DLe.refl _, rfl, trivial⟩ (tellHp_box rfl rfl ⟨rfl, rfl, rfl, rfl, trivial⟩ (tellHp_box rfl rfl ⟨rfl, rfl, rfl, rfl, trivial⟩ (tellHp_nest rfl rfl rfl (fun i hi => ⟨rfl, fun j hj => rfl⟩) (tellHp_row rfl rfl rfl (fun j hj => rfl) (tellHp_row rfl rfl hsl.symm (fun i hi => hz i hi) (tellHp_row rfl rfl rfl (fun j hj => rfl) tellHp_nil)))))))
                (tellFr_ptr rfl rfl (tellFr_ptr rfl rfl (tellFr_ptr rfl rfl (tellFr_v rfl rfl (tellFr_v rfl (congrArg (Value.int .i64) hwk) trivial))))), by show (k - 1).toNat < k.toNat; omega⟩
          · exact ⟨⟨(bls, k - 1, q + 1 + 1), by show 0 ≤ k - 1; omega, by show (bls.length : Int) + (k - 1) ≤ 2; omega, by show p ≤ q + 1 + 1; omega, by show q + 1 + 1 + 2 * (k - 1) ≤ p + 23; omega⟩,
            le_of [(10, 10), (11, 11), (12, 12), (13, 13), (14, 14), (15, 15)] rfl rfl rfl rfl (tellHp_box rfl rfl ⟨DLe.refl _, rfl, trivial⟩ (tellHp_box rfl rfl ⟨rfl, rfl, rfl, rfl, trivial⟩ (tellHp_box rfl rfl ⟨rfl, rfl, rfl, rfl, trivial⟩ (tellHp_nest rfl rfl rfl (fun i hi => ⟨rfl, fun j hj => rfl⟩) (tellHp_row rfl rfl rfl (fun j hj => rfl) (tellHp_row rfl rfl rfl (fun j hj => rfl) (tellHp_row rfl rfl rfl (fun j hj => rfl) tellHp_nil)))))))
              (tellFr_ptr rfl rfl (tellFr_ptr rfl rfl (tellFr_ptr rfl rfl (tellFr_v rfl rfl (tellFr_v rfl (congrArg (Value.int .i64) hwk) trivial))))), by show (k - 1).toNat < k.toNat; omega⟩
        · repeat' (first | refine bsplit_true ?_ | refine bsplit_false ?_)
          exact ⟨⟨(bls, k - 1, q + 1 + 1), by show 0 ≤ k - 1; omega, by show (bls.length : Int) + (k - 1) ≤ 2; omega, by show p ≤ q + 1 + 1; omega, by show q + 1 + 1 + 2 * (k - 1) ≤ p + 23; omega⟩,
            le_of [(10, 10), (11, 11), (12, 12), (13, 13), (14, 14), (15, 15)] rfl rfl rfl rfl (tellHp_box rfl rfl ⟨DLe.refl _, rfl, trivial⟩ (tellHp_box rfl rfl ⟨rfl, rfl, rfl, rfl, trivial⟩ (tellHp_box rfl rfl ⟨rfl, rfl, rfl, rfl, trivial⟩ (tellHp_nest rfl rfl rfl (fun i hi => ⟨rfl, fun j hj => rfl⟩) (tellHp_row rfl rfl rfl (fun j hj => rfl) (tellHp_row rfl rfl rfl (fun j hj => rfl) (tellHp_row rfl rfl rfl (fun j hj => rfl) tellHp_nil)))))))
              (tellFr_ptr rfl rfl (tellFr_ptr rfl rfl (tellFr_ptr rfl rfl (tellFr_v rfl rfl (tellFr_v rfl (congrArg (Value.int .i64) hwk) trivial))))), by show (k - 1).toNat < k.toNat; omega⟩
      · refine bsplit_of_false (decide_eq_false (show ¬ k > 0 by omega)) ?_
        have hn4 := nx_in (c := c) hc (p := q) (n := 4) (by omega) (by omega)
        have hB2 : bls.length ≤ 2 := by omega
        have hw : IntKind.i64.wrap (1 + nx c q 4) = 1 + nx c q 4 := wrap_i64 _ (by omega) (by omega)
        repeat' (first | refine bsplit_true ?_ | refine bsplit_false ?_ | (refine .inr ⟨rfl, use_mut ⟨?_, ?_, ?_, ?_, ?_, ?_, ?_, ?_, ?_, ?_, ?_⟩⟩; rotate_left 6; exact rfl; exact rfl; (first | (refine c_spec_l1Next c hc _ _ ?_ ?_ <;> (first | omega | (dsimp only; omega))) | (refine pick3 c hc _ _ _ _ ?_ ?_ <;> (first | omega | (dsimp only; omega))) | (refine pick4 c hc _ _ _ _ _ ?_ ?_ <;> (first | omega | (dsimp only; omega))) | (refine pick2 c hc _ _ _ ?_ ?_ <;> (first | omega | (dsimp only; omega))) | (refine pick6 c hc _ _ _ _ _ _ _ ?_ ?_ <;> (first | omega | (dsimp only; omega))) | (refine pick7 c hc _ _ _ _ _ _ _ _ ?_ ?_ <;> (first | omega | (dsimp only; omega))) | (refine pick5 c hc _ _ _ _ _ _ ?_ ?_ <;> (first | omega | (dsimp only; omega)))); rfl))
        refine ⟨{ x : List SlotM × Int × Int // 0 ≤ x.2.1 ∧ 1 ≤ (x.1.length : Int) + x.2.1 ∧ (x.1.length : Int) + x.2.1 ≤ 4 ∧ p ≤ x.2.2 ∧ x.2.2 + 2 * x.2.1 ≤ p + 32 }, fun x => ⟨frL [(0, .ptr 0 0), (2, .ptr 10 0), (3, .ptr 11 0), (8, di l.length), (13, di x.1.2.1)], hpL [(0, srcBox c x.1.2.2), (10, .box 34 nil4), (11, .box 34 (rows4 12 13 14 15)), (12, nestE l), (13, rowLane lns), (14, rowBell bls), (15, rowSlot x.1.1)], 100, 1⟩, fun x => x.1.2.1.toNat,
          ⟨([], 1 + nx c q 4, q + 1), by show 0 ≤ 1 + nx c q 4; omega, by show 1 ≤ ((0 : Nat) : Int) + (1 + nx c q 4); omega, by show ((0 : Nat) : Int) + (1 + nx c q 4) ≤ 4; omega, by show p ≤ q + 1; omega, by show q + 1 + 2 * (1 + nx c q 4) ≤ p + 32; omega⟩,
          le_of [(10, 10), (11, 11), (12, 12), (13, 13), (14, 14), (15, 15)] rfl rfl rfl rfl (tellHp_box rfl rfl ⟨DLe.refl _, rfl, trivial⟩ (tellHp_box rfl rfl ⟨rfl, rfl, rfl, rfl, trivial⟩ (tellHp_box rfl rfl ⟨rfl, rfl, rfl, rfl, trivial⟩ (tellHp_nest rfl rfl rfl (fun i hi => ⟨rfl, fun j hj => rfl⟩) (tellHp_row rfl rfl rfl (fun j hj => rfl) (tellHp_row rfl rfl rfl (fun j hj => rfl) (tellHp_row rfl rfl rfl (fun j hj => rfl) tellHp_nil)))))))
            (tellFr_ptr rfl rfl (tellFr_ptr rfl rfl (tellFr_ptr rfl rfl (tellFr_v rfl rfl (tellFr_v rfl (congrArg (Value.int .i64) hw) trivial))))), ?_⟩
        clear hn4 hw
        rintro ⟨⟨pln, k, q⟩, hk0, hk1, hk3, hq1, hq2⟩
        simp only at hk0 hk1 hk3 hq1 hq2
        by_cases hk : 0 < k
        · have hwk : IntKind.i64.wrap (k - 1) = k - 1 := wrap_i64 _ (by omega) (by omega)
          have hz := app_slot pln ⟨nx c q l.length, IntKind.i64.wrap (1 + nx c (q + 1) 9)⟩
          have hsl : (pln ++ [(⟨nx c q l.length, IntKind.i64.wrap (1 + nx c (q + 1) 9)⟩ : SlotM)]).length = pln.length + 1 := by simp
          refine bsplit_of_true (decide_eq_true (show k > 0 by omega)) ?_
          refine .inr ⟨_, _, use_mut ⟨_, _, _, _, _, _, rfl, rfl, c_spec_l1Next c hc q l.length (by omega) (by omega), rfl, ⟨rfl, rfl⟩⟩, ?_⟩
          refine .inr ⟨_, _, use_mut ⟨_, _, _, _, _, _, rfl, rfl, c_spec_l1Next c hc (q + 1) 9 (by omega) (by omega), rfl, ⟨rfl, rfl⟩⟩, ?_⟩
          refine ask_intro ⟨by show (pln.length + 1) * 16 ≤ 140737488355328; omega, by show pln.length + 1 ≤ 9223372036854775807; omega, fun i hi => ?_⟩ ?_
          · obtain rfl : i = 0 := by omega
            rfl
          refine chk_intro (by kernel_rfl) ?_
          exact ⟨⟨(pln ++ [(⟨nx c q l.length, IntKind.i64.wrap (1 + nx c (q + 1) 9)⟩ : SlotM)], k - 1, q + 1 + 1), by show 0 ≤ k - 1; omega, by show 1 ≤ ((pln ++ [(⟨nx c q l.length, IntKind.i64.wrap (1 + nx c (q + 1) 9)⟩ : SlotM)]).length : Int) + (k - 1); omega, by show ((pln ++ [(⟨nx c q l.length, IntKind.i64.wrap (1 + nx c (q + 1) 9)⟩ : SlotM)]).length : Int) + (k - 1) ≤ 4; omega, by show p ≤ q + 1 + 1; omega, by show q + 1 + 1 + 2 * (k - 1) ≤ p + 32; omega⟩,
            le_of [(10, 10), (11, 11), (12, 12), (13, 13), (14, 14), (15, 4516)] rfl rfl rfl rfl (tellHp_box rfl rfl ⟨DLe.refl _, rfl, trivial⟩ (tellHp_box rfl rfl ⟨rfl, rfl, rfl, rfl, trivial⟩ (tellHp_box rfl rfl ⟨rfl, rfl, rfl, rfl, trivial⟩ (tellHp_nest rfl rfl rfl (fun i hi => ⟨rfl, fun j hj => rfl⟩) (tellHp_row rfl rfl rfl (fun j hj => rfl) (tellHp_row rfl rfl rfl (fun j hj => rfl) (tellHp_row rfl rfl hsl.symm (fun i hi => hz i hi) tellHp_nil)))))))
              (tellFr_ptr rfl rfl (tellFr_ptr rfl rfl (tellFr_ptr rfl rfl (tellFr_v rfl rfl (tellFr_v rfl (congrArg (Value.int .i64) hwk) trivial))))), by show (k - 1).toNat < k.toNat; omega⟩
        · refine bsplit_of_false (decide_eq_false (show ¬ k > 0 by omega)) ?_
          exact ⟨_, _, _, [(1, 12), (2, 13), (3, 14), (4, 15)], ⟨⟨l, lns, bls, pln⟩, q, ⟨hl0, hl3, hI, hL3, hB2, by show 1 ≤ pln.length; omega, by show pln.length ≤ 4; omega⟩, by omega, by omega, rfl, rfl, rfl⟩,
            chk_intro (by kernel_rfl) ⟨⟨rfl, rfl, rfl, rfl, trivial⟩, tellHp_box rfl rfl ⟨DLe.refl _, rfl, trivial⟩ (tellHp_nest rfl rfl rfl (fun i hi => ⟨rfl, fun j hj => rfl⟩) (tellHp_row rfl rfl rfl (fun j hj => rfl) (tellHp_row rfl rfl rfl (fun j hj => rfl) (tellHp_row rfl rfl rfl (fun j hj => rfl) tellHp_nil))))⟩⟩
end Go.Proofs.Ytdpahckfibnagaa.L

/- Policies that are drawn and bent: contracts. -/
set_option linter.unusedVariables false
set_option linter.unusedSimpArgs false
set_option maxRecDepth 100000
namespace Go.Proofs.Ytdpahckfibnagaa.L
open Go.RowKit
theorem DLe.l2 {n m : Nat} {f g : Nat → List D} (hn : n = m) (h : ∀ i, i < n → (f i).length = (g i).length ∧ ∀ j, j < (f i).length → DLe ((f i).getD j (.v undef)) ((g i).getD j (.v undef))) : DLe (.l n f) (.l m g) := by
  subst hn
  intro w I v hr
  cases hr with
  | nil f A c => exact .nil _ _ _
  | l n f a c sz vs h0 hc hI hs hz hl hv h1 hr =>
    exact .l n g a c sz vs h0 hc hI hs hz (fun i hi => by rw [← (h i hi).1]; exact hl i hi) hv h1 (fun i j hi hj => (h i hi).2 j (by rw [hl i hi]; exact hj) _ _ _ (hr i j hi hj))
theorem DLe.of_eq {x y : D} (h : x = y) : DLe x y := h ▸ DLe.refl _
structure PolM.few (x : PolM) : Prop where
  own : x.own.length ≤ 4
  ins : ∀ i, i < x.own.length → (x.own.getD i []).length ≤ 3
  lns : x.lns.length ≤ 5
  bls : x.bls.length ≤ 4
  pln : x.pln.length ≤ 9
theorem PolM.few.small {x : PolM} (h : x.few) : x.small := by
  obtain ⟨h1, h2, h3, h4, h5⟩ := h
  exact ⟨by omega, fun i hi => by have := h2 i hi; omega, by omega, by omega, by omega⟩
theorem PolM.drawn.few {x : PolM} (h : x.drawn) : x.few := by
  obtain ⟨h1, h2, h3, h4, h5, h6, h7⟩ := h
  exact ⟨by omega, fun i hi => (h3 i hi).2, by omega, by omega, by omega⟩
theorem nestEl_h1 {s : LS} {L : Nat → Nat} {f : Nat → Nat → List D} {k m : Nat} {e : TypeId} {sz : Nat} {h : Nat → List D} (hk : s.hp k = some (.row e sz m h)) (i : Nat) : nestEl s L f [(0, .hole k)] i = if i = 0 then [.l m h] else [.l (L i) (f i)] := by
  unfold nestEl nOf
  cases i with
  | zero =>
    show (match s.hp k with | some (.row _ _ m h) => [D.l m h] | _ => []) = _
    rw [hk]; rfl
  | succ i => rfl
theorem nestEl_h2 {s : LS} {L : Nat → Nat} {f : Nat → Nat → List D} {k m n1 : Nat} {e : TypeId} {sz : Nat} {h : Nat → List D} (hk : s.hp k = some (.row e sz m h)) (i : Nat) : nestEl s L f [(n1, .hole k), (0, .hole k)] i = if i = n1 ∨ i = 0 then [.l m h] else [.l (L i) (f i)] := by
  unfold nestEl nOf
  simp only [lookN]
  by_cases h1 : i = n1
  · subst h1
    rw [Nat.beq_refl, cond_true, if_pos (.inl rfl)]
    show (match s.hp k with | some (.row _ _ m h) => [D.l m h] | _ => []) = _
    rw [hk]
  · have e1 : Nat.beq i n1 = false := by rw [← Bool.not_eq_true, Nat.beq_eq]; exact h1
    rw [e1, cond_false]
    by_cases h2 : i = 0
    · subst h2
      rw [if_pos (.inr rfl)]
      show (match s.hp k with | some (.row _ _ m h) => [D.l m h] | _ => []) = _
      rw [hk]
    · have e2 : Nat.beq i 0 = false := by rw [← Bool.not_eq_true, Nat.beq_eq]; exact h2
      rw [e2, cond_false, if_neg (by omega)]
theorem nestEl_d1 {s : LS} {L : Nat → Nat} {f : Nat → Nat → List D} {x : D} (i : Nat) : nestEl s L f [(0, .dat x)] i = if i = 0 then [x] else [.l (L i) (f i)] := by
  unfold nestEl nOf
  cases i with
  | zero => rfl
  | succ i => rfl
theorem app_lane1 (l : List LaneM) (z : LaneM) (q : Nat) (hq : q < l.length + 1) : upto l.length (lanesF l) (fun i => ([laneD z] : List (List D)).getD i []) q = lanesF (l ++ [z]) q := by
  unfold upto
  by_cases h : q < l.length
  · rw [if_pos h]
    show laneD (l.getD q _) = laneD ((l ++ [z]).getD q _)
    simp only [List.getD]
    rw [List.getElem?_append_left h]
  · rw [if_neg h]
    obtain rfl : q = l.length := by omega
    rw [Nat.sub_self]
    show laneD z = laneD ((l ++ [z]).getD l.length _)
    simp [List.getD]
theorem app_bell2 (l : List BellM) (y z : BellM) (q : Nat) (hq : q < l.length + 2) : upto l.length (bellsF l) (fun i => ([bellD y, bellD z] : List (List D)).getD i []) q = bellsF (l ++ [y, z]) q := by
  unfold upto
  by_cases h : q < l.length
  · rw [if_pos h]
    show bellD (l.getD q _) = bellD ((l ++ [y, z]).getD q _)
    simp only [List.getD]
    rw [List.getElem?_append_left h]
  · rw [if_neg h]
    show _ = bellD ((l ++ [y, z]).getD q _)
    simp only [List.getD]
    rw [List.getElem?_append_right (by omega)]
    obtain e | e : q - l.length = 0 ∨ q - l.length = 1 := by omega
    · rw [e]; rfl
    · rw [e]; rfl
theorem set_slot {l : List SlotM} {z : SlotM} (hl : 0 < l.length) (j : Nat) : (if j = 0 then splice (slotsF l j) 0 (slotD z) else slotsF l j) = slotsF (l.set 0 z) j := by
  show _ = slotD ((l.set 0 z).getD j ⟨0, 0⟩)
  by_cases e : j = 0
  · subst e
    rw [if_pos rfl]
    simp [List.getD, splice]
    rw [List.getElem?_eq_getElem (by simpa using hl)]
    simp
  · rw [if_neg e]
    show slotD (l.getD j ⟨0, 0⟩) = _
    simp [List.getD, List.getElem?_set_ne (Ne.symm e)]
theorem rep_slot (j : Nat) (hj : j < 9) : [D.v (.int .i64 0), D.v (.int .i64 0)] = slotsF (List.replicate 9 ⟨0, 0⟩) j := by
  show _ = slotD (((List.replicate 9 (⟨0, 0⟩ : SlotM))[j]?).getD ⟨0, 0⟩)
  rw [List.getElem?_replicate, if_pos hj]
  rfl
theorem rep_lane (j : Nat) (hj : j < 5) : [D.v (.int .i64 0), D.v (.int .i64 0), D.v (.int .i64 0), D.v (.int .i64 0), D.v (.int .i64 0)] = lanesF (List.replicate 5 ⟨0, 0, 0, 0, 0⟩) j := by
  show _ = laneD (((List.replicate 5 (⟨0, 0, 0, 0, 0⟩ : LaneM))[j]?).getD ⟨0, 0, 0, 0, 0⟩)
  rw [List.getElem?_replicate, if_pos hj]
  rfl
theorem set_head (l : List (List Int)) (m : List Int) (i : Nat) (hl : 0 < l.length) : (l.set 0 m).getD i [] = if i = 0 then m else l.getD i [] := by
  by_cases e : i = 0
  · subst e; simp [List.getD, List.getElem?_set_self hl]
  · rw [if_neg e]; simp [List.getD, List.getElem?_set_ne (Ne.symm e)]
theorem own_c0 (ow : List (List Int)) (h0 : 1 ≤ ow.length) (h1 : 1 ≤ (ow.getD 0 []).length) (v : Int) (i : Nat) : (if i = 0 then [D.l (lenF ow 0) (fun j => if j = 0 then splice (inF ow 0 j) 0 [D.v (.int .i64 v)] else inF ow 0 j)] else [D.l (lenF ow i) (inF ow i)]) = ownsF (ow.set 0 ((ow.getD 0 []).set 0 v)) i := by
  show _ = [ints ((ow.set 0 ((ow.getD 0 []).set 0 v)).getD i [])]
  rw [set_head ow _ i (by omega)]
  by_cases e : i = 0
  · rw [if_pos e, if_pos e]
    have e1 : (fun j => if j = 0 then splice (inF ow 0 j) 0 [D.v (.int .i64 v)] else inF ow 0 j) = intsF ((ow.getD 0 []).set 0 v) := by
      funext j
      by_cases ej : j = 0
      · subst ej
        rw [if_pos rfl]
        show [D.v (.int .i64 v)] = [D.v (.int .i64 (((ow.getD 0 []).set 0 v).getD 0 0))]
        simp only [List.getD]
        rw [List.getElem?_set_self (by show 0 < (ow.getD 0 []).length; omega)]
        rfl
      · rw [if_neg ej]
        show [D.v (.int .i64 ((ow.getD 0 []).getD j 0))] = [D.v (.int .i64 (((ow.getD 0 []).set 0 v).getD j 0))]
        simp only [List.getD]
        rw [List.getElem?_set_ne (Ne.symm ej)]
    rw [e1]
    show [D.l (ow.getD 0 []).length _] = [D.l ((ow.getD 0 []).set 0 v).length _]
    rw [List.length_set]
  · rw [if_neg e, if_neg e]
theorem own_c1 (ow : List (List Int)) (h0 : 1 ≤ ow.length) (i : Nat) (hi : i < ow.length + 1) : (if i = ow.length ∨ i = 0 then [D.l (lenF ow 0) (inF ow 0)] else [D.l (uptoN ow.length (lenF ow) (fun _ => 0) i) (uptoN ow.length (inF ow) (fun _ _ => []) i)]) = ownsF (ow ++ [ow.getD 0 []]) i := by
  show _ = [ints ((ow ++ [ow.getD 0 []]).getD i [])]
  by_cases e : i = ow.length
  · rw [if_pos (.inl e), e, app_last]
  · have hl : (ow ++ [ow.getD 0 []]).getD i [] = ow.getD i [] := by simp only [List.getD]; rw [List.getElem?_append_left (by omega)]
    rw [hl]
    by_cases e2 : i = 0
    · rw [if_pos (.inr e2), e2]
    · rw [if_neg (by omega)]
      unfold uptoN
      rw [if_pos (by omega), if_pos (by omega)]
theorem own_c7 (ow : List (List Int)) (h0 : 1 ≤ ow.length) (i : Nat) : ((if i = 0 then [D.v (.slice none 0 0)] else [D.l (lenF ow i) (inF ow i)]) : List D).length = (ownsF (ow.set 0 []) i).length ∧ ∀ j, j < ((if i = 0 then [D.v (.slice none 0 0)] else [D.l (lenF ow i) (inF ow i)]) : List D).length → DLe (((if i = 0 then [D.v (.slice none 0 0)] else [D.l (lenF ow i) (inF ow i)]) : List D).getD j (.v undef)) ((ownsF (ow.set 0 []) i).getD j (.v undef)) := by
  have e1 : ownsF (ow.set 0 []) i = [ints (if i = 0 then [] else ow.getD i [])] := by
    show [ints ((ow.set 0 []).getD i [])] = _
    rw [set_head ow _ i (by omega)]
  rw [e1]
  by_cases e : i = 0
  · rw [if_pos e, if_pos e]
    refine ⟨rfl, fun j hj => ?_⟩
    obtain rfl : j = 0 := by simp at hj; omega
    exact DLe.nil _
  · rw [if_neg e, if_neg e]
    exact ⟨rfl, fun j hj => DLe.refl _⟩
theorem own_d7 (s : LS) (ow : List (List Int)) (h0 : 1 ≤ ow.length) : DLe (.l ow.length (nestEl s (lenF ow) (inF ow) [(0, .dat (.v (.slice none 0 0)))])) (owns (ow.set 0 [])) :=
  DLe.l2 (by rw [List.length_set]) fun i hi => by rw [nestEl_d1 i]; exact own_c7 ow h0 i
set_option maxHeartbeats 3200000 in
theorem c_spec_l6Bent (c : List Int) (hc : okCode c) (p : Int) (hp : 0 ≤ p) (hp2 : p ≤ 109951162) : MutS Try.prog 119 [.ptr 0 0] 1 [(0, srcBox c p)]
    (fun lv m' hp1 => ∃ (x : PolM) (q : Int), x.few ∧ p ≤ q ∧ q ≤ p + 70 ∧ lv = polLV x ∧ m' = 1 ∧ hp1 = [(0, srcBox c q)]) := by
  refine mutS_fn_of lv119 Try.func119 rfl rfl (by kernel_rfl) rfl ?_
  refine .inr ⟨rfl, use_mutS ⟨_, _, _, _, rfl, rfl, c_spec_l6Policy c hc p hp (by omega), rfl, ?_⟩⟩
  rintro _ _ _ ⟨x, q, hx, hq1, hq2, rfl, rfl, rfl⟩
  refine ⟨rfl, ?_⟩
  have hfew := hx.few
  obtain ⟨ow, ln, bl, pn⟩ := x
  have h0 : 1 ≤ ow.length := hx.own
  have h03 : ow.length ≤ 3 := hx.own3
  have h1 : 1 ≤ (ow.getD 0 []).length ∧ (ow.getD 0 []).length ≤ 3 := hx.ins 0 hx.own
  have h2 : 1 ≤ pn.length := hx.pln
  have hll : ln.length ≤ 3 := hx.lns
  have hbl : bl.length ≤ 2 := hx.bls
  have hpl : pn.length ≤ 4 := hx.pln4
  have hins : ∀ i, i < ow.length → (ow.getD i []).length ≤ 3 := fun i hi => (hx.ins i hi).2
  have hp0 : 0 ≤ q := by omega
  have hlen1 : (ow ++ [ow.getD 0 []]).length = ow.length + 1 := by simp
  have hins1 : ∀ i, i < (ow ++ [ow.getD 0 []]).length → ((ow ++ [ow.getD 0 []]).getD i []).length ≤ 3 := fun i hi => by
    by_cases e : i < ow.length
    · have e2 : (ow ++ [ow.getD 0 []]).getD i [] = ow.getD i [] := by simp only [List.getD]; rw [List.getElem?_append_left e]
      rw [e2]; exact hins i e
    · obtain rfl : i = ow.length := by omega
      rw [app_last]; exact h1.2
  have hset : ∀ m : List Int, m.length ≤ 3 → ∀ i, i < (ow.set 0 m).length → ((ow.set 0 m).getD i []).length ≤ 3 := fun m hm i hi => by
    rw [List.length_set] at hi
    rw [set_head ow m i (by omega)]
    split
    · exact hm
    · exact hins i hi
  repeat' (first | refine bsplit_true ?_ | refine bsplit_false ?_ | (refine .inr ⟨rfl, use_mut ⟨?_, ?_, ?_, ?_, ?_, ?_, ?_, ?_, ?_, ?_, ?_⟩⟩; rotate_left 6; exact rfl; exact rfl; (first | (refine c_spec_l1Next c hc _ _ ?_ ?_ <;> (first | omega | (dsimp only; omega))) | (refine pick3 c hc _ _ _ _ ?_ ?_ <;> (first | omega | (dsimp only; omega))) | (refine pick4 c hc _ _ _ _ _ ?_ ?_ <;> (first | omega | (dsimp only; omega))) | (refine pick2 c hc _ _ _ ?_ ?_ <;> (first | omega | (dsimp only; omega))) | (refine pick6 c hc _ _ _ _ _ _ _ ?_ ?_ <;> (first | omega | (dsimp only; omega))) | (refine pick7 c hc _ _ _ _ _ _ _ _ ?_ ?_ <;> (first | omega | (dsimp only; omega))) | (refine pick5 c hc _ _ _ _ _ _ ?_ ?_ <;> (first | omega | (dsimp only; omega)))); rfl))
  refine bsplit_intro (fun e => ?_) (fun _ => ?_)
  · refine ask_intro ⟨by omega, by show (0 : Int) < (ow.length : Int); omega⟩ ?_
    refine ask_intro (by show 0 < ow.length; omega) ?_
    refine .inr ⟨_, _, use_mut ⟨_, _, _, _, _, _, rfl, rfl, pick3 c hc (q + 1) (-1) 24 3 (by omega) (by omega), rfl, ⟨rfl, rfl⟩⟩, ?_⟩
    refine ask_intro ⟨by omega, by show (0 : Int) < ((ow.getD 0 []).length : Int); omega⟩ ?_
    refine ask_intro (by show 0 < (ow.getD 0 []).length; omega) ?_
    refine chk_intro (by kernel_rfl) ?_
    exact ⟨_, _, _, [], ⟨⟨ow.set 0 ((ow.getD 0 []).set 0 (pk c (q + 1) [-1, 24, 3])), ln, bl, pn⟩, q + 1 + 1, ⟨by show (ow.set 0 _).length ≤ 4; rw [List.length_set]; omega, hset _ (by rw [List.length_set]; exact h1.2), by show ln.length ≤ 5; omega, by show bl.length ≤ 4; omega, by show pn.length ≤ 9; omega⟩, by omega, by omega, rfl, rfl, rfl⟩, chk_intro (by kernel_rfl) ⟨⟨tellV_frzH rfl rfl rfl (DLe.l (by rw [List.length_set]) (fun i hi => Eq.trans (nestEl_h1 rfl i) (own_c0 ow h0 h1.1 _ i))), tellV_frz rfl rfl rfl (DLe.refl _), tellV_frz rfl rfl rfl (DLe.refl _), tellV_frz rfl rfl rfl (DLe.refl _), trivial⟩, tellHp_box rfl rfl ⟨DLe.refl _, rfl, trivial⟩ tellHp_nil⟩⟩
  refine bsplit_intro (fun e => ?_) (fun _ => ?_)
  · refine ask_intro ⟨by omega, by show (0 : Int) < (ow.length : Int); omega⟩ ?_
    refine ask_intro (by show 0 < ow.length; omega) ?_
    refine ask_intro trivial ?_
    refine ask_intro ⟨by show (ow.length + 1) * 24 ≤ 140737488355328; omega, by show ow.length + 1 ≤ 9223372036854775807; omega, by show 0 < ow.length; omega, trivial⟩ ?_
    refine chk_intro (by kernel_rfl) ?_
    exact ⟨_, _, _, [], ⟨⟨ow ++ [ow.getD 0 []], ln, bl, pn⟩, q + 1, ⟨by show (ow ++ _).length ≤ 4; omega, hins1, by show ln.length ≤ 5; omega, by show bl.length ≤ 4; omega, by show pn.length ≤ 9; omega⟩, by omega, by omega, rfl, rfl, rfl⟩, chk_intro (by kernel_rfl) ⟨⟨tellV_frzH rfl rfl rfl (DLe.l hlen1.symm (fun i hi => Eq.trans (nestEl_h2 rfl i) (own_c1 ow h0 i hi))), tellV_frz rfl rfl rfl (DLe.refl _), tellV_frz rfl rfl rfl (DLe.refl _), tellV_frz rfl rfl rfl (DLe.refl _), trivial⟩, tellHp_box rfl rfl ⟨DLe.refl _, rfl, trivial⟩ tellHp_nil⟩⟩
  refine bsplit_intro (fun e => ?_) (fun _ => ?_)
  · exact ⟨_, _, _, [], ⟨⟨[], ln, bl, pn⟩, q + 1, ⟨by show (0 : Nat) ≤ 4; omega, fun i hi => absurd hi (Nat.not_lt_zero _), hfew.lns, hfew.bls, hfew.pln⟩, by omega, by omega, rfl, rfl, rfl⟩, chk_intro (by kernel_rfl) ⟨⟨DLe.nil _, tellV_frz rfl rfl rfl (DLe.refl _), tellV_frz rfl rfl rfl (DLe.refl _), tellV_frz rfl rfl rfl (DLe.refl _), trivial⟩, tellHp_box rfl rfl ⟨DLe.refl _, rfl, trivial⟩ tellHp_nil⟩⟩
  refine bsplit_intro (fun e => ?_) (fun _ => ?_)
  · refine .inr ⟨_, _, use_mut ⟨_, _, _, _, _, _, rfl, rfl, c_spec_l1Next c hc (q + 1) 3 (by omega) (by omega), rfl, ⟨rfl, rfl⟩⟩, ?_⟩
    refine .inr ⟨_, _, use_mut ⟨_, _, _, _, _, _, rfl, rfl, c_spec_l1Next c hc (q + 1 + 1) 4 (by omega) (by omega), rfl, ⟨rfl, rfl⟩⟩, ?_⟩
    refine .inr ⟨_, _, use_mut ⟨_, _, _, _, _, _, rfl, rfl, pick3 c hc (q + 1 + 1 + 1) 0 23 24 (by omega) (by omega), rfl, ⟨rfl, rfl⟩⟩, ?_⟩
    refine .inr ⟨_, _, use_mut ⟨_, _, _, _, _, _, rfl, rfl, pick2 c hc (q + 1 + 1 + 1 + 1) 5 4 (by omega) (by omega), rfl, ⟨rfl, rfl⟩⟩, ?_⟩
    refine .inr ⟨_, _, use_mut ⟨_, _, _, _, _, _, rfl, rfl, pick3 c hc (q + 1 + 1 + 1 + 1 + 1) 6 7 5 (by omega) (by omega), rfl, ⟨rfl, rfl⟩⟩, ?_⟩
    refine ask_intro ⟨by show (ln.length + 1) * 40 ≤ 140737488355328; omega, by show ln.length + 1 ≤ 9223372036854775807; omega, fun i hi => ?_⟩ ?_
    · obtain rfl : i = 0 := by omega
      rfl
    refine chk_intro (by kernel_rfl) ?_
    exact ⟨_, _, _, [], ⟨⟨ow, ln ++ [(⟨nx c (q + 1) 3, nx c (q + 1 + 1) 4, pk c (q + 1 + 1 + 1) [0, 23, 24], pk c (q + 1 + 1 + 1 + 1) [5, 4], pk c (q + 1 + 1 + 1 + 1 + 1) [6, 7, 5]⟩ : LaneM)], bl, pn⟩, q + 1 + 1 + 1 + 1 + 1 + 1, ⟨hfew.own, hfew.ins, by show (ln ++ [_]).length ≤ 5; rw [List.length_append]; show ln.length + 1 ≤ 5; omega, hfew.bls, hfew.pln⟩, by omega, by omega, rfl, rfl, rfl⟩, chk_intro (by kernel_rfl) ⟨⟨tellV_frzN rfl rfl rfl (DLe.refl _), tellV_frz rfl rfl rfl (DLe.l (by rw [List.length_append]; rfl) (fun i hi => app_lane1 ln (⟨nx c (q + 1) 3, nx c (q + 1 + 1) 4, pk c (q + 1 + 1 + 1) [0, 23, 24], pk c (q + 1 + 1 + 1 + 1) [5, 4], pk c (q + 1 + 1 + 1 + 1 + 1) [6, 7, 5]⟩ : LaneM) i hi)), tellV_frz rfl rfl rfl (DLe.refl _), tellV_frz rfl rfl rfl (DLe.refl _), trivial⟩, tellHp_box rfl rfl ⟨DLe.refl _, rfl, trivial⟩ tellHp_nil⟩⟩
  refine bsplit_intro (fun e => ?_) (fun _ => ?_)
  · refine .inr ⟨_, _, use_mut ⟨_, _, _, _, _, _, rfl, rfl, c_spec_l1Next c hc (q + 1) 3 (by omega) (by omega), rfl, ⟨rfl, rfl⟩⟩, ?_⟩
    refine .inr ⟨_, _, use_mut ⟨_, _, _, _, _, _, rfl, rfl, c_spec_l1Next c hc (q + 1 + 1) 4 (by omega) (by omega), rfl, ⟨rfl, rfl⟩⟩, ?_⟩
    refine ask_intro ⟨by show (bl.length + 2) * 16 ≤ 140737488355328; omega, by show bl.length + 2 ≤ 9223372036854775807; omega, fun i hi => ?_⟩ ?_
    · obtain rfl | rfl : i = 0 ∨ i = 1 := by omega
      · rfl
      · rfl
    refine chk_intro (by kernel_rfl) ?_
    exact ⟨_, _, _, [], ⟨⟨ow, ln, bl ++ [(⟨nx c (q + 1) 3, nx c (q + 1 + 1) 4⟩ : BellM), ⟨0, 1⟩], pn⟩, q + 1 + 1 + 1, ⟨hfew.own, hfew.ins, hfew.lns, by show (bl ++ _).length ≤ 4; rw [List.length_append]; show bl.length + 2 ≤ 4; omega, hfew.pln⟩, by omega, by omega, rfl, rfl, rfl⟩, chk_intro (by kernel_rfl) ⟨⟨tellV_frzN rfl rfl rfl (DLe.refl _), tellV_frz rfl rfl rfl (DLe.refl _), tellV_frz rfl rfl rfl (DLe.l (by rw [List.length_append]; rfl) (fun i hi => app_bell2 bl (⟨nx c (q + 1) 3, nx c (q + 1 + 1) 4⟩ : BellM) ⟨0, 1⟩ i hi)), tellV_frz rfl rfl rfl (DLe.refl _), trivial⟩, tellHp_box rfl rfl ⟨DLe.refl _, rfl, trivial⟩ tellHp_nil⟩⟩
  refine bsplit_intro (fun e => ?_) (fun _ => ?_)
  · refine .inr ⟨_, _, use_mut ⟨_, _, _, _, _, _, rfl, rfl, pick3 c hc (q + 1) 0 (-1) 3 (by omega) (by omega), rfl, ⟨rfl, rfl⟩⟩, ?_⟩
    refine .inr ⟨_, _, use_mut ⟨_, _, _, _, _, _, rfl, rfl, pick4 c hc (q + 1 + 1) 0 1 50 51 (by omega) (by omega), rfl, ⟨rfl, rfl⟩⟩, ?_⟩
    refine ask_intro ⟨by omega, by show (0 : Int) < (pn.length : Int); omega⟩ ?_
    refine ask_intro (by show 0 < pn.length; omega) ?_
    refine chk_intro (by kernel_rfl) ?_
    exact ⟨_, _, _, [], ⟨⟨ow, ln, bl, pn.set 0 (⟨pk c (q + 1) [0, -1, 3], pk c (q + 1 + 1) [0, 1, 50, 51]⟩ : SlotM)⟩, q + 1 + 1 + 1, ⟨hfew.own, hfew.ins, hfew.lns, hfew.bls, by show (pn.set 0 _).length ≤ 9; rw [List.length_set]; omega⟩, by omega, by omega, rfl, rfl, rfl⟩, chk_intro (by kernel_rfl) ⟨⟨tellV_frzN rfl rfl rfl (DLe.refl _), tellV_frz rfl rfl rfl (DLe.refl _), tellV_frz rfl rfl rfl (DLe.refl _), tellV_frz rfl rfl rfl (DLe.l (by rw [List.length_set]) (fun i hi => set_slot (l := pn) (z := ⟨pk c (q + 1) [0, -1, 3], pk c (q + 1 + 1) [0, 1, 50, 51]⟩) (by omega) i)), trivial⟩, tellHp_box rfl rfl ⟨DLe.refl _, rfl, trivial⟩ tellHp_nil⟩⟩
  refine bsplit_intro (fun e => ?_) (fun _ => ?_)
  · refine ask_intro ⟨rfl, by omega, by show (9 : Int) * 16 ≤ 140737488355328; omega, by omega⟩ ?_
    exact ⟨_, _, _, [], ⟨⟨ow, ln, bl, List.replicate 9 ⟨0, 0⟩⟩, q + 1, ⟨hfew.own, hfew.ins, hfew.lns, hfew.bls, by show (List.replicate 9 _).length ≤ 9; simp⟩, by omega, by omega, rfl, rfl, rfl⟩, chk_intro (by kernel_rfl) ⟨⟨tellV_frzN rfl rfl rfl (DLe.refl _), tellV_frz rfl rfl rfl (DLe.refl _), tellV_frz rfl rfl rfl (DLe.refl _), tellV_frz rfl rfl rfl (DLe.l (by simp) (fun i hi => rep_slot i hi)), trivial⟩, tellHp_box rfl rfl ⟨DLe.refl _, rfl, trivial⟩ tellHp_nil⟩⟩
  refine bsplit_intro (fun e => ?_) (fun _ => ?_)
  · refine ask_intro ⟨by omega, by show (0 : Int) < (ow.length : Int); omega⟩ ?_
    refine ask_intro (by show 0 < ow.length; omega) ?_
    exact ⟨_, _, _, [], ⟨⟨ow.set 0 [], ln, bl, pn⟩, q + 1, ⟨by show (ow.set 0 _).length ≤ 4; rw [List.length_set]; omega, hset [] (by simp), hfew.lns, hfew.bls, hfew.pln⟩, by omega, by omega, rfl, rfl, rfl⟩, chk_intro (by kernel_rfl) ⟨⟨tellV_frzH rfl rfl rfl (own_d7 _ ow h0), tellV_frz rfl rfl rfl (DLe.refl _), tellV_frz rfl rfl rfl (DLe.refl _), tellV_frz rfl rfl rfl (DLe.refl _), trivial⟩, tellHp_box rfl rfl ⟨DLe.refl _, rfl, trivial⟩ tellHp_nil⟩⟩
  refine bsplit_intro (fun e => ?_) (fun _ => ?_)
  · refine ask_intro ⟨rfl, by omega, by show (5 : Int) * 40 ≤ 140737488355328; omega, by omega⟩ ?_
    exact ⟨_, _, _, [], ⟨⟨ow, List.replicate 5 ⟨0, 0, 0, 0, 0⟩, bl, pn⟩, q + 1, ⟨hfew.own, hfew.ins, by show (List.replicate 5 _).length ≤ 5; simp, hfew.bls, hfew.pln⟩, by omega, by omega, rfl, rfl, rfl⟩, chk_intro (by kernel_rfl) ⟨⟨tellV_frzN rfl rfl rfl (DLe.refl _), tellV_frz rfl rfl rfl (DLe.l (by simp) (fun i hi => rep_lane i hi)), tellV_frz rfl rfl rfl (DLe.refl _), tellV_frz rfl rfl rfl (DLe.refl _), trivial⟩, tellHp_box rfl rfl ⟨DLe.refl _, rfl, trivial⟩ tellHp_nil⟩⟩
  exact ⟨_, _, _, [], ⟨⟨ow, ln, bl, pn⟩, q + 1, hfew, by omega, by omega, rfl, rfl, rfl⟩, chk_intro (by kernel_rfl) ⟨⟨tellV_frzN rfl rfl rfl (DLe.refl _), tellV_frz rfl rfl rfl (DLe.refl _), tellV_frz rfl rfl rfl (DLe.refl _), tellV_frz rfl rfl rfl (DLe.refl _), trivial⟩, tellHp_box rfl rfl ⟨DLe.refl _, rfl, trivial⟩ tellHp_nil⟩⟩
end Go.Proofs.Ytdpahckfibnagaa.L

/- Codes of bytes, as arguments read as data. -/
set_option linter.unusedVariables false
set_option linter.unusedSimpArgs false
set_option maxRecDepth 100000
namespace Go.Proofs.Ytdpahckfibnagaa.L
open Go.RowKit Go.ChangeShapes Go.WideShapes Go.ChangeAt
abbrev okByte (n : Int) : Prop := (Lit.int .u8 n).wf = true
theorem okByte_le {n : Int} (h : okByte n) : 0 ≤ n ∧ n ≤ 255 := by
  have h' : IntKind.u8.min ≤ n ∧ n ≤ IntKind.u8.max := by simpa [okByte, Lit.wf] using h
  have e : IntKind.u8.min = 0 := by decide
  have e2 : IntKind.u8.max = 255 := by decide
  rw [e, e2] at h'
  exact h'
abbrev okBytes (l : List Int) : Prop := l.length * 1 ≤ reachBytes ∧ ∀ x ∈ l, okByte x
theorem okBytes.code {l : List Int} (h : okBytes l) (hb : decide ((l.length : Int) > 1048576) = false) : okCode l := ⟨by simp at hb; omega, fun x hx => okByte_le (h.2 x hx)⟩
theorem reads_uint8 : ReadsT Try.prog 5 1 Int (fun n => [.v (.int .u8 n)]) okByte := ReadsT.int Try.underlying5 (by kernel_rfl)
theorem reads_bytes : ReadsT Try.prog 52 1 (List Int) (fun l => [bytesD l]) okBytes := ReadsT.slice reads_uint8 Try.underlying52 (by kernel_rfl) (by decide) 0 (by kernel_rfl)
end Go.Proofs.Ytdpahckfibnagaa.L

/- Whose turn it is: contracts. -/
set_option linter.unusedVariables false
set_option linter.unusedSimpArgs false
set_option maxRecDepth 100000
namespace Go.Proofs.Ytdpahckfibnagaa.L
open Go.RowKit
def stepsOK (l : List SlotM) : Prop := ∀ s ∈ l, 1 ≤ s.steps ∧ s.steps ≤ 50
def sumS : List SlotM → Int
  | [] => 0
  | s :: r => s.steps + sumS r
theorem sumS_b : ∀ {l : List SlotM}, stepsOK l → (l.length : Int) ≤ sumS l ∧ sumS l ≤ 50 * (l.length : Int)
  | [], _ => by simp [sumS]
  | s :: r, h => by
    have h1 := h s (.head _)
    have h2 := sumS_b (l := r) (fun x hx => h x (.tail _ hx))
    simp only [sumS, List.length_cons]
    omega
theorem stW_sum : ∀ (l : List SlotM) (n : Int), stepsOK l → 0 ≤ n → n + 50 * (l.length : Int) ≤ 1000000000 → stW (fun _ => true) l n = n + sumS l
  | [], n, _, _, _ => by simp [stW, sumS]
  | s :: r, n, h, h0, hb => by
    have h1 := h s (.head _)
    simp only [List.length_cons] at hb
    have hw : IntKind.i64.wrap (n + s.steps) = n + s.steps := wrap_i64 _ (by omega) (by omega)
    show stW _ r (IntKind.i64.wrap (n + s.steps)) = _
    rw [hw, stW_sum r _ (fun x hx => h x (.tail _ hx)) (by omega) (by omega)]
    simp only [sumS]; omega
theorem plan_ok {x : PolM} (h : polFault x = 0) : 1 ≤ x.pln.length ∧ x.pln.length ≤ 8 ∧ stepsOK x.pln := by
  have hp : planBad x.own.length x.pln = 0 := by
    unfold polFault at h
    split at h
    · cases hq : (decide (x.lns.length > 4) || decide (x.bls.length > 4)) with
      | true => rw [hq] at h; simp at h
      | false =>
        rw [hq, cond_false] at h
        split at h
        · split at h
          · exact h
          · rename_i e; exact absurd h e
        · rename_i e; exact absurd h e
    · rename_i e; exact absurd h e
  unfold planBad at hp
  cases hq : inR (x.pln.length : Int) 1 8 with
  | false => rw [hq] at hp; simp at hp
  | true =>
    rw [hq] at hp
    have hp : firstNZ (x.pln.map (slotBad x.own.length)) = 0 := hp
    have hi := inR_iff.1 hq
    refine ⟨by omega, by omega, fun s hs => ?_⟩
    have h1 := firstNZ_all hp (slotBad x.own.length s) (List.mem_map.2 ⟨s, hs, rfl⟩)
    unfold slotBad at h1
    cases hg : guestB x.own.length s.guest with
    | false => rw [hg] at h1; simp at h1
    | true =>
      rw [hg] at h1
      cases ht : inR s.steps 1 50 with
      | false => rw [ht] at h1; simp at h1
      | true => exact inR_iff.1 ht
def turnR : List SlotM → Int → Int × Int
  | [], _ => (0, 0)
  | s :: r, a => if a ≥ s.steps then ((turnR r (a - s.steps)).1 + 1, (turnR r (a - s.steps)).2) else (0, s.steps - a)
theorem turn_b : ∀ {l : List SlotM} {a : Int}, stepsOK l → 0 ≤ a → a < sumS l → 0 ≤ (turnR l a).1 ∧ (turnR l a).1 < l.length
  | [], a, _, h0, h1 => by simp [sumS] at h1; omega
  | s :: r, a, h, h0, h1 => by
    simp only [turnR, List.length_cons]
    simp only [sumS] at h1
    split
    · have := turn_b (l := r) (a := a - s.steps) (fun x hx => h x (.tail _ hx)) (by omega) (by omega)
      simp only; omega
    · simp only; omega
def turnM (x : PolM) (c : Int) : Int × Int := turnR x.pln (c.tmod (stW (fun _ => true) x.pln 0))
theorem clock_at {x : PolM} {c : Int} (h : askedC x c = 0) : polFault x = 0 ∧ 0 ≤ c ∧ c ≤ 1000000 := by
  unfold askedC at h
  split at h
  · rename_i e
    cases hb : inR c 0 1000000 with
    | false => rw [hb] at h; simp at h
    | true => have := inR_iff.1 hb; exact ⟨e, this.1, this.2⟩
  · rename_i e; exact absurd h e
theorem rem_b {x : PolM} {c : Int} (hp : 1 ≤ x.pln.length ∧ x.pln.length ≤ 8 ∧ stepsOK x.pln) (hc : 0 ≤ c) : stW (fun _ => true) x.pln 0 = sumS x.pln ∧ 1 ≤ sumS x.pln ∧ sumS x.pln ≤ 400 ∧ 0 ≤ c.tmod (sumS x.pln) ∧ c.tmod (sumS x.pln) < sumS x.pln := by
  have h1 := sumS_b hp.2.2
  have h2 := stW_sum x.pln 0 hp.2.2 (by omega) (by omega)
  refine ⟨by omega, by omega, by omega, ?_, ?_⟩
  · rw [Int.tmod_eq_emod_of_nonneg hc]
    exact Int.emod_nonneg _ (by omega)
  · rw [Int.tmod_eq_emod_of_nonneg hc]
    exact Int.emod_lt_of_pos _ (by omega)
theorem steps_drop {l : List SlotM} (h : stepsOK l) (k : Nat) : stepsOK (l.drop k) := fun s hs => h s (List.mem_of_mem_drop hs)
theorem turn_len {l : List SlotM} (h : stepsOK l) {k : Nat} {a : Int} (h0 : 0 ≤ a) (h1 : a < sumS (l.drop k)) : k < l.length := by
  rcases Nat.lt_or_ge k l.length with h2 | h2
  · exact h2
  · rw [List.drop_eq_nil_of_le h2] at h1
    simp only [sumS] at h1; omega
abbrev J3 (l : List SlotM) (R : Int × Int) (p : Nat × Int) : Prop := 0 ≤ p.2 ∧ p.2 < sumS (l.drop p.1) ∧ (turnR (l.drop p.1) p.2).1 + p.1 = R.1 ∧ (turnR (l.drop p.1) p.2).2 = R.2
theorem turn_go {l : List SlotM} {R : Int × Int} {k : Nat} {a : Int} (h : stepsOK l) (hj : J3 l R (k, a)) : k < l.length ∧ 1 ≤ (l.getD k ⟨0, 0⟩).steps ∧ (l.getD k ⟨0, 0⟩).steps ≤ 50 ∧ (a ≥ (l.getD k ⟨0, 0⟩).steps → J3 l R (k + 1, a - (l.getD k ⟨0, 0⟩).steps)) ∧ (¬ a ≥ (l.getD k ⟨0, 0⟩).steps → (k : Int) = R.1 ∧ (l.getD k ⟨0, 0⟩).steps - a = R.2) := by
  obtain ⟨h0, h1, h2, h3⟩ := hj
  simp only at h0 h1 h2 h3
  have hk := turn_len h h0 h1
  have hs := h (l.getD k ⟨0, 0⟩) (by rw [getD_at _ hk]; exact List.getElem_mem hk)
  rw [drop_consG ⟨0, 0⟩ l k hk] at h1 h2 h3
  simp only [sumS] at h1
  simp only [turnR] at h2 h3
  refine ⟨hk, hs.1, hs.2, fun hge => ?_, fun hlt => ?_⟩
  · rw [if_pos hge] at h2 h3
    simp only at h2 h3
    exact ⟨by show 0 ≤ a - (l.getD k ⟨0, 0⟩).steps; omega, by show a - (l.getD k ⟨0, 0⟩).steps < sumS (l.drop (k + 1)); omega, by show (turnR (l.drop (k + 1)) (a - (l.getD k ⟨0, 0⟩).steps)).1 + ((k + 1 : Nat) : Int) = R.1; omega, h3⟩
  · rw [if_neg hlt] at h2 h3
    simp only at h2 h3
    exact ⟨by omega, h3⟩
theorem c_impl_turnAt (x : PolM) (hs : x.small) (c : Int) (hf : askedC x c = 0) : FnOK Try.prog 76 [polP x, di c] (.tup [.one (.v (.int .i64 (turnM x c).1)), .one (.v (.int .i64 (turnM x c).2))]) := by
  obtain ⟨hp, hc0, hc1⟩ := clock_at hf
  have hok := plan_ok hp
  obtain ⟨hst, r1, r2, r3, r4⟩ := rem_b (c := c) hok hc0
  have cst := c_impl_stepsOf x hs (-1)
  rw [show ofG (-1) = fun _ => true from funext fun s => rfl, hst] at cst
  obtain ⟨R, hR⟩ : ∃ R, R = turnM x c := ⟨_, rfl⟩
  rw [← hR]
  unfold turnM at hR
  rw [hst] at hR
  refine fn_of lv76 Try.func76 rfl rfl (by kernel_rfl) rfl ?_
  refine .inl ⟨_, _, rfl, cst, rfl, ?_⟩
  refine ask_intro (by omega) ?_
  refine ⟨{ p : Nat × Int // J3 x.pln R p }, fun p => ⟨frL [(0, polP x), (1, di p.1.2), (6, di p.1.1)], hpL [], 96, 0⟩, fun p => x.pln.length - p.1.1, ⟨(0, c.tmod (sumS x.pln)), r3, by rw [List.drop_zero]; exact r4, by rw [List.drop_zero, ← hR]; simp, by rw [List.drop_zero, ← hR]⟩,
    le_of [] rfl rfl rfl rfl trivial (tellFr_x rfl ⟨DLe.refl _, DLe.refl _, DLe.refl _, DLe.refl _, trivial⟩ (tellFr_v rfl rfl (tellFr_v rfl rfl trivial))), ?_⟩
  rintro ⟨⟨k, a⟩, hj⟩
  have ha0 := hj.1
  obtain ⟨hk, s1, s2, hge, hlt⟩ := turn_go hok.2.2 hj
  simp only at ha0
  refine ask_intro ⟨by omega, by show (k : Int) < (x.pln.length : Int); omega, rfl⟩ ?_
  by_cases h1 : a ≥ (x.pln.getD k ⟨0, 0⟩).steps
  · refine bsplit_of_true (decide_eq_true h1) ?_
    refine ask_intro ⟨by omega, by show (k : Int) < (x.pln.length : Int); omega, rfl⟩ ?_
    have hb : a < sumS x.pln ∨ True := .inr trivial
    have ha1 : a ≤ 1000000 := by
      have := hj.2.1
      have q := sumS_b (steps_drop hok.2.2 k)
      simp only [List.length_drop] at q
      simp only at this
      omega
    have hw : IntKind.i64.wrap (a - (x.pln.getD k ⟨0, 0⟩).steps) = a - (x.pln.getD k ⟨0, 0⟩).steps := wrap_i64 _ (by omega) (by omega)
    exact ⟨⟨(k + 1, a - (x.pln.getD k ⟨0, 0⟩).steps), hge h1⟩, le_of [] rfl rfl rfl rfl trivial (tellFr_x rfl ⟨DLe.refl _, DLe.refl _, DLe.refl _, DLe.refl _, trivial⟩ (tellFr_v rfl (congrArg (Value.int .i64) hw) (tellFr_v rfl (congrArg (Value.int .i64) (wrap1 hk (by omega))) trivial))), by show x.pln.length - (k + 1) < x.pln.length - k; omega⟩
  · obtain ⟨z1, z2⟩ := hlt h1
    have hw : IntKind.i64.wrap ((x.pln.getD k ⟨0, 0⟩).steps - a) = (x.pln.getD k ⟨0, 0⟩).steps - a := wrap_i64 _ (by omega) (by omega)
    refine bsplit_of_false (decide_eq_false h1) ?_
    refine ask_intro ⟨by omega, by show (k : Int) < (x.pln.length : Int); omega, rfl⟩ ?_
    refine chk_intro (by kernel_rfl) ?_
    exact ⟨⟨congrArg (Value.int .i64) z1, congrArg (Value.int .i64) (hw.trans z2), trivial⟩, rfl⟩
theorem c_spec_l12Turn (x : PolM) (hs : x.small) (c : Int) (hf : askedC x c = 0) : FnOK Try.prog 74 [polP x, di c] (.tup [.one (.v (.int .i64 (turnM x c).1)), .one (.v (.int .i64 (turnM x c).2))]) := by
  obtain ⟨hp, hc0, hc1⟩ := clock_at hf
  have hok := plan_ok hp
  obtain ⟨hst, r1, r2, r3, r4⟩ := rem_b (c := c) hok hc0
  obtain ⟨R, hR⟩ : ∃ R, R = turnM x c := ⟨_, rfl⟩
  rw [← hR]
  unfold turnM at hR
  rw [hst] at hR
  refine fn_of lv74 Try.func74 rfl rfl (by kernel_rfl) rfl ?_
  refine ⟨{ p : Nat × Int // p.1 ≤ x.pln.length ∧ stW (fun _ => true) (x.pln.drop p.1) p.2 = sumS x.pln }, fun p => ⟨frL [(0, polP x), (1, di c), (6, di p.1.2), (7, di p.1.1)], hpL [], 96, 0⟩, fun p => x.pln.length - p.1.1, ⟨(0, 0), by omega, hst⟩,
    le_of [] rfl rfl rfl rfl trivial (tellFr_x rfl ⟨DLe.refl _, DLe.refl _, DLe.refl _, DLe.refl _, trivial⟩ (tellFr_v rfl rfl (tellFr_v rfl rfl (tellFr_v rfl rfl trivial)))), ?_⟩
  rintro ⟨⟨i, n⟩, hi, hall⟩
  simp only at hi hall
  by_cases h1 : i < x.pln.length
  · rw [stW_step _ _ _ h1] at hall
    refine bsplit_of_true (decide_eq_true (by show (i : Int) < (x.pln.length : Int); omega)) ?_
    refine ask_intro ⟨by omega, by show (i : Int) < (x.pln.length : Int); omega, rfl⟩ ?_
    exact ⟨⟨(i + 1, _), by show i + 1 ≤ _; omega, hall⟩, le_of [] rfl rfl rfl rfl trivial (tellFr_x rfl ⟨DLe.refl _, DLe.refl _, DLe.refl _, DLe.refl _, trivial⟩ (tellFr_v rfl rfl (tellFr_v rfl rfl (tellFr_v rfl (congrArg (Value.int .i64) (wrap1 h1 (by omega))) trivial)))), by show x.pln.length - (i + 1) < x.pln.length - i; omega⟩
  rw [List.drop_eq_nil_of_le (by omega)] at hall
  have hall : n = sumS x.pln := hall
  subst hall
  refine bsplit_of_false (decide_eq_false (by show ¬ (i : Int) < (x.pln.length : Int); omega)) ?_
  refine ask_intro (by show ¬ (sumS x.pln = 0); omega) ?_
  refine ⟨{ p : Nat × Int // J3 x.pln R p }, fun p => ⟨frL [(0, polP x), (8, di p.1.2), (9, di p.1.1)], hpL [], 96, 0⟩, fun p => x.pln.length - p.1.1, ⟨(0, c.tmod (sumS x.pln)), r3, by rw [List.drop_zero]; exact r4, by rw [List.drop_zero, ← hR]; simp, by rw [List.drop_zero, ← hR]⟩,
    le_of [] rfl rfl rfl rfl trivial (tellFr_x rfl ⟨DLe.refl _, DLe.refl _, DLe.refl _, DLe.refl _, trivial⟩ (tellFr_v rfl rfl (tellFr_v rfl rfl trivial))), ?_⟩
  rintro ⟨⟨k, a⟩, hj⟩
  have ha0 := hj.1
  obtain ⟨hk, s1, s2, hge, hlt⟩ := turn_go hok.2.2 hj
  simp only at ha0
  refine ask_intro ⟨by omega, by show (k : Int) < (x.pln.length : Int); omega, rfl⟩ ?_
  by_cases h1 : a ≥ (x.pln.getD k ⟨0, 0⟩).steps
  · refine bsplit_of_true (decide_eq_true h1) ?_
    refine ask_intro ⟨by omega, by show (k : Int) < (x.pln.length : Int); omega, rfl⟩ ?_
    have ha1 : a ≤ 1000000 := by
      have := hj.2.1
      have q := sumS_b (steps_drop hok.2.2 k)
      simp only [List.length_drop] at q
      simp only at this
      omega
    have hw : IntKind.i64.wrap (a - (x.pln.getD k ⟨0, 0⟩).steps) = a - (x.pln.getD k ⟨0, 0⟩).steps := wrap_i64 _ (by omega) (by omega)
    exact ⟨⟨(k + 1, a - (x.pln.getD k ⟨0, 0⟩).steps), hge h1⟩, le_of [] rfl rfl rfl rfl trivial (tellFr_x rfl ⟨DLe.refl _, DLe.refl _, DLe.refl _, DLe.refl _, trivial⟩ (tellFr_v rfl (congrArg (Value.int .i64) hw) (tellFr_v rfl (congrArg (Value.int .i64) (wrap1 hk (by omega))) trivial))), by show x.pln.length - (k + 1) < x.pln.length - k; omega⟩
  · obtain ⟨z1, z2⟩ := hlt h1
    have hw : IntKind.i64.wrap ((x.pln.getD k ⟨0, 0⟩).steps - a) = (x.pln.getD k ⟨0, 0⟩).steps - a := wrap_i64 _ (by omega) (by omega)
    refine bsplit_of_false (decide_eq_false h1) ?_
    refine ask_intro ⟨by omega, by show (k : Int) < (x.pln.length : Int); omega, rfl⟩ ?_
    refine chk_intro (by kernel_rfl) ?_
    exact ⟨⟨congrArg (Value.int .i64) z1, congrArg (Value.int .i64) (hw.trans z2), trivial⟩, rfl⟩
abbrev srR (p : Int × Int × SlotM) : RV1 := .agg [.v (.int .i64 p.1), .v (.int .i64 p.2.1), .v (.int .i64 p.2.2.guest), .v (.int .i64 p.2.2.steps)]
abbrev srLV (p : Int × Int × SlotM) : LV := .agg [di p.1, di p.2.1, di p.2.2.guest, di p.2.2.steps]
def turnAtM (x : PolM) (c : Int) : Int × Int × SlotM := if askedC x c = 0 then (0, (turnM x c).1, ⟨(x.pln.getD (turnM x c).1.toNat ⟨0, 0⟩).guest, (turnM x c).2⟩) else (askedC x c, 0, ⟨0, 0⟩)
theorem turnM_b {x : PolM} {c : Int} (hf : askedC x c = 0) : 0 ≤ (turnM x c).1 ∧ (turnM x c).1 < (x.pln.length : Int) := by
  obtain ⟨hp, hc0, hc1⟩ := clock_at hf
  have hok := plan_ok hp
  obtain ⟨hst, r1, r2, r3, r4⟩ := rem_b (c := c) hok hc0
  unfold turnM
  rw [hst]
  exact turn_b hok.2.2 r3 r4
theorem c_spec_TurnAt (x : PolM) (hs : x.small) (c : Int) : FnOK Try.prog 27 [polLV x, di c] (.r (srR (turnAtM x c))) := by
  have hl := hs.pln
  have c1 := c_spec_l12Asked x hs c
  have c2 := c_spec_l12Turn x hs c
  have hb := @turnM_b x c
  obtain ⟨r, hr⟩ : ∃ r, r = turnAtM x c := ⟨_, rfl⟩
  rw [← hr]
  unfold turnAtM at hr
  generalize askedC x c = e at *
  generalize turnM x c = t at *
  refine fn_of lv27 Try.func27 rfl rfl (by kernel_rfl) rfl ?_
  refine .inl ⟨_, _, rfl, c1, rfl, ?_⟩
  refine bsplit_intro (fun h => ?_) (fun h => ?_)
  · rw [if_neg (by simpa using h)] at hr
    subst hr
    exact ⟨⟨rfl, rfl, rfl, rfl, trivial⟩, rfl⟩
  have h : e = 0 := by simpa using h
  rw [if_pos h] at hr
  have c2 := c2 h
  have hb := hb h
  refine .inl ⟨_, _, rfl, c2, rfl, ?_⟩
  refine ask_intro ⟨hb.1, hb.2, rfl⟩ ?_
  subst hr
  exact ⟨⟨rfl, rfl, rfl, rfl, trivial⟩, rfl⟩
theorem c_impl_TurnAt (x : PolM) (hs : x.small) (c : Int) : FnOK Try.prog 28 [polLV x, di c] (.r (srR (turnAtM x c))) := by
  have hl := hs.pln
  have c1 := c_impl_clockFault x hs c
  have c2 := c_impl_turnAt x hs c
  have hb := @turnM_b x c
  obtain ⟨r, hr⟩ : ∃ r, r = turnAtM x c := ⟨_, rfl⟩
  rw [← hr]
  unfold turnAtM at hr
  generalize askedC x c = e at *
  generalize turnM x c = t at *
  refine fn_of lv28 Try.func28 rfl rfl (by kernel_rfl) rfl ?_
  refine .inl ⟨_, _, rfl, c1, rfl, ?_⟩
  refine bsplit_intro (fun h => ?_) (fun h => ?_)
  · rw [if_neg (by simpa using h)] at hr
    subst hr
    exact ⟨⟨rfl, rfl, rfl, rfl, trivial⟩, rfl⟩
  have h : e = 0 := by simpa using h
  rw [if_pos h] at hr
  have c2 := c2 h
  have hb := hb h
  refine .inl ⟨_, _, rfl, c2, rfl, ?_⟩
  refine ask_intro ⟨hb.1, hb.2, rfl⟩ ?_
  subst hr
  exact ⟨⟨rfl, rfl, rfl, rfl, trivial⟩, rfl⟩
theorem c_laws_eqSlotResult (p q : Int × Int × SlotM) : FnOK Try.prog 29 [srLV p, srLV q] (rb (decide (p = q))) := by
  have c1 := c_laws_eqSlot p.2.2 q.2.2
  obtain ⟨a1, a2, a3, a4⟩ := p
  obtain ⟨b1, b2, b3, b4⟩ := q
  refine fn_of lv29 Try.func29 rfl rfl (by kernel_rfl) rfl ?_
  repeat' (first | refine bsplit_true ?_ | refine bsplit_false ?_ | refine .inl ⟨_, _, rfl, c1, rfl, ?_⟩ | refine bsplit_intro (fun h => ?_) (fun h => ?_))
  all_goals refine ⟨⟨congrArg Value.bool ?_, trivial⟩, rfl⟩
  all_goals (simp_all <;> intro e f <;> omega)
end Go.Proofs.Ytdpahckfibnagaa.L

/- How many turns a guest had: contracts. -/
set_option linter.unusedVariables false
set_option linter.unusedSimpArgs false
set_option maxRecDepth 100000
namespace Go.Proofs.Ytdpahckfibnagaa.L
open Go.RowKit
abbrev minI (a b : Int) : Int := if b < a then b else a
theorem c_spec_l1Min (a b : Int) : FnOK Try.prog 79 [di a, di b] (ri (minI a b)) := by
  refine fn_of lv79 Try.func79 rfl rfl (by kernel_rfl) rfl ?_
  refine bsplit_intro (fun h => ?_) (fun h => ?_)
  all_goals refine ⟨⟨congrArg (Value.int .i64) ?_, trivial⟩, rfl⟩
  · have h := of_decide_eq_true h
    unfold minI
    rw [if_neg (by omega)]
  · have h := of_decide_eq_false h
    unfold minI
    split <;> omega
def tb (g : Int) : List SlotM → Int → Int → Int
  | [], _, n => n
  | s :: r, rest, n => tb g r (rest - minI rest s.steps) (bif s.guest == g then IntKind.i64.wrap (n + minI rest s.steps) else n)
def inI (n : Int) : Prop := -9223372036854775808 ≤ n ∧ n < 9223372036854775808
theorem inI_wrap (n : Int) : inI (IntKind.i64.wrap n) := by
  unfold inI
  rw [IntKind.wrap_i64]
  omega
theorem tb_zero (g : Int) : ∀ (l : List SlotM) (n : Int), stepsOK l → inI n → tb g l 0 n = n
  | [], n, _, _ => rfl
  | s :: r, n, h, hn => by
    have h1 := h s (.head _)
    have hm : minI 0 s.steps = 0 := if_neg (by omega)
    have hw : IntKind.i64.wrap n = n := wrap_i64 _ hn.1 hn.2
    simp only [tb, hm, Int.add_zero, Int.sub_zero, hw]
    cases (s.guest == g) <;> exact tb_zero g r n (fun x hx => h x (.tail _ hx)) hn
theorem tb_step (g : Int) (l : List SlotM) (k : Nat) (h : k < l.length) (rest n : Int) : tb g (l.drop k) rest n = tb g (l.drop (k + 1)) (rest - minI rest (l.getD k ⟨0, 0⟩).steps) (bif (l.getD k ⟨0, 0⟩).guest == g then IntKind.i64.wrap (n + minI rest (l.getD k ⟨0, 0⟩).steps) else n) := by
  rw [drop_consG ⟨0, 0⟩ l k h]; rfl
def turnsB (x : PolM) (c g : Int) : Int × Int := if askedC x c = 0 then (bif !guestB x.own.length g then (4, 0) else (0, tb g x.pln (c.tmod (sumS x.pln)) (IntKind.i64.wrap (IntKind.i64.wrap (c.tdiv (sumS x.pln)) * stW (fun s => s.guest == g) x.pln 0)))) else (askedC x c, 0)
theorem min_b {rest st : Int} (h0 : 0 ≤ rest) (h1 : 1 ≤ st) : 0 ≤ minI rest st ∧ minI rest st ≤ rest := by
  unfold minI; split <;> omega
set_option maxHeartbeats 1600000 in
theorem c_impl_TurnsBefore (x : PolM) (hs : x.small) (c g : Int) : FnOK Try.prog 31 [polLV x, di c, di g] (.r (irR (turnsB x c g))) := by
  have hl := hs.pln
  have c1 := c_impl_clockFault x hs c
  have c2 := c_impl_isGuest x hs g
  obtain ⟨r, hr⟩ : ∃ r, r = turnsB x c g := ⟨_, rfl⟩
  rw [← hr]
  unfold turnsB at hr
  by_cases he : askedC x c = 0
  rotate_left
  · rw [if_neg he] at hr
    subst hr
    refine fn_of lv31 Try.func31 rfl rfl (by kernel_rfl) rfl ?_
    refine .inl ⟨_, _, rfl, c1, rfl, ?_⟩
    refine bsplit_of_true (by simpa using he) ?_
    exact ⟨⟨rfl, rfl, trivial⟩, rfl⟩
  rw [if_pos he] at hr
  rw [he] at c1
  cases hg : guestB x.own.length g with
  | false =>
    rw [hg] at hr c2
    have hr : r = (4, 0) := hr
    subst hr
    refine fn_of lv31 Try.func31 rfl rfl (by kernel_rfl) rfl ?_
    refine .inl ⟨_, _, rfl, c1, rfl, ?_⟩
    repeat' (first | refine bsplit_true ?_ | refine bsplit_false ?_)
    refine .inl ⟨_, _, rfl, c2, rfl, ?_⟩
    repeat' (first | refine bsplit_true ?_ | refine bsplit_false ?_)
    exact ⟨⟨rfl, rfl, trivial⟩, rfl⟩
  | true =>
    rw [hg] at hr c2
    obtain ⟨hp, hc0, hc1⟩ := clock_at he
    have hok := plan_ok hp
    obtain ⟨hst, r1, r2, r3, r4⟩ := rem_b (c := c) hok hc0
    have hag : askedG x g = 0 := by unfold askedG; rw [if_pos hp, hg]; rfl
    have cst := c_impl_stepsOf x hs (-1)
    rw [show ofG (-1) = fun _ => true from funext fun s => rfl, hst] at cst
    have cf := c_impl_stepsOf x hs g
    rw [ofG_of hag] at cf
    generalize stW (fun s => s.guest == g) x.pln 0 = F at *
    have hr : r = (0, tb g x.pln (c.tmod (sumS x.pln)) (IntKind.i64.wrap (IntKind.i64.wrap (c.tdiv (sumS x.pln)) * F))) := hr
    obtain ⟨V, hV⟩ : ∃ V, V = tb g x.pln (c.tmod (sumS x.pln)) (IntKind.i64.wrap (IntKind.i64.wrap (c.tdiv (sumS x.pln)) * F)) := ⟨_, rfl⟩
    rw [← hV] at hr
    subst hr
    refine fn_of lv31 Try.func31 rfl rfl (by kernel_rfl) rfl ?_
    refine .inl ⟨_, _, rfl, c1, rfl, ?_⟩
    repeat' (first | refine bsplit_true ?_ | refine bsplit_false ?_)
    refine .inl ⟨_, _, rfl, c2, rfl, ?_⟩
    repeat' (first | refine bsplit_true ?_ | refine bsplit_false ?_)
    refine .inl ⟨_, _, rfl, cst, rfl, ?_⟩
    refine ask_intro (show ¬ (sumS x.pln = 0) by omega) ?_
    refine .inl ⟨_, _, rfl, cf, rfl, ?_⟩
    refine ask_intro (show ¬ (sumS x.pln = 0) by omega) ?_
    refine chk_intro (by kernel_rfl) ?_
    refine ⟨{ p : Nat × Int × Int // p.1 ≤ x.pln.length ∧ 0 ≤ p.2.2 ∧ p.2.2 ≤ 400 ∧ tb g (x.pln.drop p.1) p.2.2 p.2.1 = V }, fun p => ⟨frL [(2, di g), (6, .ptr 64 0), (9, di p.1.2.1), (10, di p.1.2.2), (35, .d (slots x.pln)), (36, di x.pln.length), (37, di p.1.1)], hpL [(64, .box 39 [di 0, di 0])], 96, 0⟩, fun p => x.pln.length - p.1.1, ⟨(0, _, _), by omega, r3, by show c.tmod (sumS x.pln) ≤ 400; omega, hV.symm⟩,
      le_of [(64, 32)] rfl rfl rfl rfl (tellHp_box rfl rfl ⟨rfl, rfl, trivial⟩ tellHp_nil) (tellFr_v rfl rfl (tellFr_ptr rfl rfl (tellFr_v rfl rfl (tellFr_v rfl rfl (tellFr_d rfl (DLe.refl _) (tellFr_v rfl rfl (tellFr_v rfl rfl trivial))))))), ?_⟩
    rintro ⟨⟨k, n, rest⟩, hk, hr0, hr1, hall⟩
    simp only at hk hr0 hr1 hall
    by_cases h1 : k < x.pln.length
    · rw [tb_step _ _ _ h1] at hall
      have hso := hok.2.2 (x.pln.getD k ⟨0, 0⟩) (by rw [getD_at _ h1]; exact List.getElem_mem h1)
      have hm := min_b hr0 hso.1
      have hw : IntKind.i64.wrap (rest - minI rest (x.pln.getD k ⟨0, 0⟩).steps) = rest - minI rest (x.pln.getD k ⟨0, 0⟩).steps := wrap_i64 _ (by omega) (by omega)
      refine bsplit_of_true (decide_eq_true (by show (k : Int) < (x.pln.length : Int); omega)) ?_
      refine ask_intro ⟨by omega, by show (k : Int) < (x.pln.length : Int); omega, rfl⟩ ?_
      refine bsplit_intro (fun h3 => ?_) (fun h3 => ?_)
      · rw [show ((x.pln.getD k ⟨0, 0⟩).guest == g) = true from h3] at hall
        exact ⟨⟨(k + 1, _, rest - minI rest (x.pln.getD k ⟨0, 0⟩).steps), by show k + 1 ≤ _; omega, by show 0 ≤ rest - minI rest (x.pln.getD k ⟨0, 0⟩).steps; omega, by show rest - minI rest (x.pln.getD k ⟨0, 0⟩).steps ≤ 400; omega, hall⟩, le_of [(64, 64)] rfl rfl rfl rfl (tellHp_box rfl rfl ⟨rfl, rfl, trivial⟩ tellHp_nil) (tellFr_v rfl rfl (tellFr_ptr rfl rfl (tellFr_v rfl rfl (tellFr_v rfl (congrArg (Value.int .i64) hw) (tellFr_d rfl (DLe.refl _) (tellFr_v rfl rfl (tellFr_v rfl (congrArg (Value.int .i64) (wrap1 h1 (by omega))) trivial))))))), by show x.pln.length - (k + 1) < x.pln.length - k; omega⟩
      · rw [show ((x.pln.getD k ⟨0, 0⟩).guest == g) = false from h3] at hall
        exact ⟨⟨(k + 1, _, rest - minI rest (x.pln.getD k ⟨0, 0⟩).steps), by show k + 1 ≤ _; omega, by show 0 ≤ rest - minI rest (x.pln.getD k ⟨0, 0⟩).steps; omega, by show rest - minI rest (x.pln.getD k ⟨0, 0⟩).steps ≤ 400; omega, hall⟩, le_of [(64, 64)] rfl rfl rfl rfl (tellHp_box rfl rfl ⟨rfl, rfl, trivial⟩ tellHp_nil) (tellFr_v rfl rfl (tellFr_ptr rfl rfl (tellFr_v rfl rfl (tellFr_v rfl (congrArg (Value.int .i64) hw) (tellFr_d rfl (DLe.refl _) (tellFr_v rfl rfl (tellFr_v rfl (congrArg (Value.int .i64) (wrap1 h1 (by omega))) trivial))))))), by show x.pln.length - (k + 1) < x.pln.length - k; omega⟩
    · rw [List.drop_eq_nil_of_le (by omega)] at hall
      have hall : n = V := hall
      refine bsplit_of_false (decide_eq_false (by show ¬ (k : Int) < (x.pln.length : Int); omega)) ?_
      exact ⟨⟨rfl, congrArg (Value.int .i64) hall, trivial⟩, rfl⟩
set_option maxHeartbeats 1600000 in
theorem c_spec_TurnsBefore (x : PolM) (hs : x.small) (c g : Int) : FnOK Try.prog 30 [polLV x, di c, di g] (.r (irR (turnsB x c g))) := by
  have hl := hs.pln
  have c1 := c_spec_l12Asked x hs c
  have c2 := c_spec_l6Guest x hs g
  obtain ⟨r, hr⟩ : ∃ r, r = turnsB x c g := ⟨_, rfl⟩
  rw [← hr]
  unfold turnsB at hr
  by_cases he : askedC x c = 0
  rotate_left
  · rw [if_neg he] at hr
    subst hr
    refine fn_of lv30 Try.func30 rfl rfl (by kernel_rfl) rfl ?_
    refine .inl ⟨_, _, rfl, c1, rfl, ?_⟩
    refine bsplit_of_true (by simpa using he) ?_
    exact ⟨⟨rfl, rfl, trivial⟩, rfl⟩
  rw [if_pos he] at hr
  rw [he] at c1
  cases hg : guestB x.own.length g with
  | false =>
    rw [hg] at hr c2
    have hr : r = (4, 0) := hr
    subst hr
    refine fn_of lv30 Try.func30 rfl rfl (by kernel_rfl) rfl ?_
    refine .inl ⟨_, _, rfl, c1, rfl, ?_⟩
    repeat' (first | refine bsplit_true ?_ | refine bsplit_false ?_)
    refine .inl ⟨_, _, rfl, c2, rfl, ?_⟩
    repeat' (first | refine bsplit_true ?_ | refine bsplit_false ?_)
    exact ⟨⟨rfl, rfl, trivial⟩, rfl⟩
  | true =>
    rw [hg] at hr c2
    obtain ⟨hp, hc0, hc1⟩ := clock_at he
    have hok := plan_ok hp
    obtain ⟨hst, r1, r2, r3, r4⟩ := rem_b (c := c) hok hc0
    have hag : askedG x g = 0 := by unfold askedG; rw [if_pos hp, hg]; rfl
    have cst := c_spec_RoundOf x hs
    rw [show roundOf x = (0, sumS x.pln) from by unfold roundOf; rw [if_pos hp, hst]] at cst
    have cf := c_spec_FramesOf x hs g
    rw [show framesOf x g = (0, stW (fun s => s.guest == g) x.pln 0) from by unfold framesOf; rw [if_pos hag]] at cf
    generalize stW (fun s => s.guest == g) x.pln 0 = F at *
    have hr : r = (0, tb g x.pln (c.tmod (sumS x.pln)) (IntKind.i64.wrap (IntKind.i64.wrap (c.tdiv (sumS x.pln)) * F))) := hr
    obtain ⟨V, hV⟩ : ∃ V, V = tb g x.pln (c.tmod (sumS x.pln)) (IntKind.i64.wrap (IntKind.i64.wrap (c.tdiv (sumS x.pln)) * F)) := ⟨_, rfl⟩
    rw [← hV] at hr
    subst hr
    refine fn_of lv30 Try.func30 rfl rfl (by kernel_rfl) rfl ?_
    refine .inl ⟨_, _, rfl, c1, rfl, ?_⟩
    repeat' (first | refine bsplit_true ?_ | refine bsplit_false ?_)
    refine .inl ⟨_, _, rfl, c2, rfl, ?_⟩
    repeat' (first | refine bsplit_true ?_ | refine bsplit_false ?_)
    refine .inl ⟨_, _, rfl, cst, rfl, ?_⟩
    refine ask_intro (show ¬ (sumS x.pln = 0) by omega) ?_
    refine .inl ⟨_, _, rfl, cf, rfl, ?_⟩
    refine chk_intro (by kernel_rfl) ?_
    refine ask_intro (show ¬ (sumS x.pln = 0) by omega) ?_
    refine ⟨{ p : Nat × Int × Int // p.1 ≤ x.pln.length ∧ 0 ≤ p.2.2 ∧ p.2.2 ≤ 400 ∧ inI p.2.1 ∧ tb g (x.pln.drop p.1) p.2.2 p.2.1 = V }, fun p => ⟨frL [(2, di g), (3, .ptr 64 0), (6, .ptr 65 0), (9, di p.1.2.1), (10, di p.1.2.2), (11, di p.1.1)], hpL [(64, .box 34 [.d (owns x.own), .d (lanes x.lns), .d (bells x.bls), .d (slots x.pln)]), (65, .box 39 [di 0, di 0])], 96, 0⟩, fun p => x.pln.length - p.1.1, ⟨(0, _, _), by omega, r3, by show c.tmod (sumS x.pln) ≤ 400; omega, inI_wrap _, hV.symm⟩,
      le_of [(64, 0), (65, 32)] rfl rfl rfl rfl (tellHp_box rfl rfl ⟨DLe.refl _, DLe.refl _, DLe.refl _, DLe.refl _, trivial⟩ (tellHp_box rfl rfl ⟨rfl, rfl, trivial⟩ tellHp_nil)) (tellFr_v rfl rfl (tellFr_ptr rfl rfl (tellFr_ptr rfl rfl (tellFr_v rfl rfl (tellFr_v rfl rfl (tellFr_v rfl rfl trivial)))))), ?_⟩
    rintro ⟨⟨k, n, rest⟩, hk, hr0, hr1, hin, hall⟩
    simp only at hk hr0 hr1 hin hall
    by_cases h1 : k < x.pln.length
    · refine bsplit_of_true (decide_eq_true (by show (k : Int) < (x.pln.length : Int); omega)) ?_
      repeat' (first | refine bsplit_true ?_ | refine bsplit_false ?_)
      by_cases h2 : rest > 0
      · rw [tb_step _ _ _ h1] at hall
        have hso := hok.2.2 (x.pln.getD k ⟨0, 0⟩) (by rw [getD_at _ h1]; exact List.getElem_mem h1)
        have hm := min_b hr0 hso.1
        have hw : IntKind.i64.wrap (rest - minI rest (x.pln.getD k ⟨0, 0⟩).steps) = rest - minI rest (x.pln.getD k ⟨0, 0⟩).steps := wrap_i64 _ (by omega) (by omega)
        have cm := c_spec_l1Min rest (x.pln.getD k ⟨0, 0⟩).steps
        refine bsplit_of_true (decide_eq_true (show rest > 0 from h2)) ?_
        refine ask_intro ⟨by omega, by show (k : Int) < (x.pln.length : Int); omega, rfl⟩ ?_
        refine bsplit_intro (fun h3 => ?_) (fun h3 => ?_)
        · rw [show ((x.pln.getD k ⟨0, 0⟩).guest == g) = true from h3] at hall
          refine ask_intro ⟨by omega, by show (k : Int) < (x.pln.length : Int); omega, rfl⟩ ?_
          refine .inl ⟨_, _, rfl, cm, rfl, ?_⟩
          refine ask_intro ⟨by omega, by show (k : Int) < (x.pln.length : Int); omega, rfl⟩ ?_
          refine .inl ⟨_, _, rfl, cm, rfl, ?_⟩
          exact ⟨⟨(k + 1, _, rest - minI rest (x.pln.getD k ⟨0, 0⟩).steps), by show k + 1 ≤ _; omega, by show 0 ≤ rest - minI rest (x.pln.getD k ⟨0, 0⟩).steps; omega, by show rest - minI rest (x.pln.getD k ⟨0, 0⟩).steps ≤ 400; omega, inI_wrap _, hall⟩, le_of [(64, 64), (65, 65)] rfl rfl rfl rfl (tellHp_box rfl rfl ⟨DLe.refl _, DLe.refl _, DLe.refl _, DLe.refl _, trivial⟩ (tellHp_box rfl rfl ⟨rfl, rfl, trivial⟩ tellHp_nil)) (tellFr_v rfl rfl (tellFr_ptr rfl rfl (tellFr_ptr rfl rfl (tellFr_v rfl rfl (tellFr_v rfl (congrArg (Value.int .i64) hw) (tellFr_v rfl (congrArg (Value.int .i64) (wrap1 h1 (by omega))) trivial)))))), by show x.pln.length - (k + 1) < x.pln.length - k; omega⟩
        · rw [show ((x.pln.getD k ⟨0, 0⟩).guest == g) = false from h3] at hall
          refine ask_intro ⟨by omega, by show (k : Int) < (x.pln.length : Int); omega, rfl⟩ ?_
          refine .inl ⟨_, _, rfl, cm, rfl, ?_⟩
          exact ⟨⟨(k + 1, _, rest - minI rest (x.pln.getD k ⟨0, 0⟩).steps), by show k + 1 ≤ _; omega, by show 0 ≤ rest - minI rest (x.pln.getD k ⟨0, 0⟩).steps; omega, by show rest - minI rest (x.pln.getD k ⟨0, 0⟩).steps ≤ 400; omega, hin, hall⟩, le_of [(64, 64), (65, 65)] rfl rfl rfl rfl (tellHp_box rfl rfl ⟨DLe.refl _, DLe.refl _, DLe.refl _, DLe.refl _, trivial⟩ (tellHp_box rfl rfl ⟨rfl, rfl, trivial⟩ tellHp_nil)) (tellFr_v rfl rfl (tellFr_ptr rfl rfl (tellFr_ptr rfl rfl (tellFr_v rfl rfl (tellFr_v rfl (congrArg (Value.int .i64) hw) (tellFr_v rfl (congrArg (Value.int .i64) (wrap1 h1 (by omega))) trivial)))))), by show x.pln.length - (k + 1) < x.pln.length - k; omega⟩
      · refine bsplit_of_false (decide_eq_false (show ¬ rest > 0 from h2)) ?_
        obtain rfl : rest = 0 := by omega
        rw [tb_zero g _ _ (steps_drop hok.2.2 k) hin] at hall
        exact ⟨⟨rfl, congrArg (Value.int .i64) hall, trivial⟩, rfl⟩
    · rw [List.drop_eq_nil_of_le (by omega)] at hall
      have hall : n = V := hall
      refine bsplit_of_false (decide_eq_false (by show ¬ (k : Int) < (x.pln.length : Int); omega)) ?_
      repeat' (first | refine bsplit_true ?_ | refine bsplit_false ?_)
      exact ⟨⟨rfl, congrArg (Value.int .i64) hall, trivial⟩, rfl⟩
end Go.Proofs.Ytdpahckfibnagaa.L

/- Policies that are drawn with numbers; plain facts of policies. -/
set_option linter.unusedVariables false
set_option linter.unusedSimpArgs false
set_option maxRecDepth 100000
namespace Go.Proofs.Ytdpahckfibnagaa.L
open Go.RowKit
abbrev polSh (x : PolM) : RV1 := .agg [.sh (owns x.own), .sh (lanes x.lns), .sh (bells x.bls), .sh (slots x.pln)]
theorem c_spec_l6With (c : List Int) (hc : okCode c) : FnS Try.prog 95 [.d (bytesD c)] (fun r => ∃ (x : PolM) (g : Int), x.few ∧ r = .tup [polSh x, .one (.v (.int .i64 g))]) := by
  refine fnS_fn_of lv95 Try.func95 rfl rfl (by kernel_rfl) rfl ?_
  refine .inr ⟨rfl, use_mut ⟨_, _, _, _, _, _, rfl, rfl, c_spec_l1Source c, rfl, ?_⟩⟩
  refine .inr ⟨rfl, use_mutS ⟨_, _, _, _, rfl, rfl, c_spec_l6Bent c hc 0 (by omega) (by omega), rfl, ?_⟩⟩
  rintro _ _ _ ⟨x, q, hx, hq1, hq2, rfl, rfl, rfl⟩
  refine ⟨rfl, ?_⟩
  refine .inr ⟨_, _, use_mut ⟨_, _, _, _, _, _, rfl, rfl, pick7 c hc q 0 1 2 0 1 3 (-1) (by omega) (by omega), rfl, ⟨rfl, rfl⟩⟩, ?_⟩
  refine chk_intro (by kernel_rfl) ?_
  exact ⟨_, ⟨x, _, hx, rfl⟩, ⟨DLe.refl _, DLe.refl _, DLe.refl _, DLe.refl _, rfl, trivial⟩, rfl⟩
theorem c_spec_DrawReachTo (c : List Int) (hc : okCode c) : FnS Try.prog 44 [.d (bytesD c)] (fun r => ∃ (x : PolM) (g : Int), x.few ∧ r = .tup [polSh x, .one (.v (.int .i64 g))]) := by
  refine fnS_fn_of lv44 Try.func44 rfl rfl (by kernel_rfl) rfl ?_
  refine .inr ⟨rfl, use_fn ⟨_, _, rfl, c_spec_l6With c hc, ?_⟩⟩
  rintro _ ⟨x, g, hx, rfl⟩
  refine ⟨rfl, ?_⟩
  exact ⟨_, ⟨x, g, hx, rfl⟩, ⟨DLe.refl _, DLe.refl _, DLe.refl _, DLe.refl _, rfl, trivial⟩, rfl⟩
theorem c_spec_DrawTurnAt (c : List Int) (hc : okCode c) : FnS Try.prog 81 [.d (bytesD c)] (fun r => ∃ (x : PolM) (g : Int), x.few ∧ r = .tup [polSh x, .one (.v (.int .i64 g))]) := by
  refine fnS_fn_of lv81 Try.func81 rfl rfl (by kernel_rfl) rfl ?_
  refine .inr ⟨rfl, use_mut ⟨_, _, _, _, _, _, rfl, rfl, c_spec_l1Source c, rfl, ?_⟩⟩
  refine .inr ⟨rfl, use_mutS ⟨_, _, _, _, rfl, rfl, c_spec_l6Bent c hc 0 (by omega) (by omega), rfl, ?_⟩⟩
  rintro _ _ _ ⟨x, q, hx, hq1, hq2, rfl, rfl, rfl⟩
  refine ⟨rfl, ?_⟩
  refine .inr ⟨_, _, use_mut ⟨_, _, _, _, _, _, rfl, rfl, c_spec_l1Next c hc q 90 (by omega) (by omega), rfl, ⟨rfl, rfl⟩⟩, ?_⟩
  refine .inr ⟨_, _, use_mut ⟨_, _, _, _, _, _, rfl, rfl, c_spec_l1Next c hc (q + 1) 90 (by omega) (by omega), rfl, ⟨rfl, rfl⟩⟩, ?_⟩
  refine .inr ⟨_, _, use_mut ⟨_, _, _, _, _, _, rfl, rfl, pick6 c hc (q + 1 + 1) _ _ 1000000 1000001 0 (-1) (by omega) (by omega), rfl, ⟨rfl, rfl⟩⟩, ?_⟩
  refine chk_intro (by kernel_rfl) ?_
  exact ⟨_, ⟨x, _, hx, rfl⟩, ⟨DLe.refl _, DLe.refl _, DLe.refl _, DLe.refl _, rfl, trivial⟩, rfl⟩
theorem c_spec_DrawTurnsBefore (c : List Int) (hc : okCode c) : FnS Try.prog 33 [.d (bytesD c)] (fun r => ∃ (x : PolM) (k g : Int), x.few ∧ r = .tup [polSh x, .one (.v (.int .i64 k)), .one (.v (.int .i64 g))]) := by
  refine fnS_fn_of lv33 Try.func33 rfl rfl (by kernel_rfl) rfl ?_
  refine .inr ⟨rfl, use_fn ⟨_, _, rfl, c_spec_DrawTurnAt c hc, ?_⟩⟩
  rintro _ ⟨x, k, hx, rfl⟩
  refine ⟨rfl, ?_⟩
  refine .inr ⟨rfl, use_mut ⟨_, _, _, _, _, _, rfl, rfl, c_spec_l1Source c, rfl, ?_⟩⟩
  refine .inr ⟨_, _, use_mut ⟨_, _, _, _, _, _, rfl, rfl, pick6 c hc 0 0 1 2 0 3 (-1) (by omega) (by omega), rfl, ⟨rfl, rfl⟩⟩, ?_⟩
  refine chk_intro (by kernel_rfl) ?_
  exact ⟨_, ⟨x, k, _, hx, rfl⟩, ⟨DLe.refl _, DLe.refl _, DLe.refl _, DLe.refl _, rfl, rfl, trivial⟩, rfl⟩
theorem hasI_mem' {l : List Int} {v : Int} : hasI l v = true ↔ v ∈ l := by
  unfold hasI
  simp
theorem c_laws_lwHas (l : List Int) (v : Int) (hl : l.length ≤ 4611686018427387904) : FnOK Try.prog 45 [.d (ints l), di v] (rb (hasI l v)) := by
  obtain ⟨r, hr⟩ : ∃ r, r = hasI l v := ⟨_, rfl⟩
  rw [← hr]
  refine fn_of lv45 Try.func45 rfl rfl (by kernel_rfl) rfl ?_
  refine ⟨{ i : Nat // i ≤ l.length ∧ hasI (l.drop i) v = r }, fun i => ⟨frL [(0, .d (ints l)), (1, di v), (5, di i.1)], hpL [], 97, 0⟩, fun i => l.length - i.1, ⟨0, by omega, hr.symm⟩,
    le_of [] rfl rfl rfl rfl trivial (tellFr_d rfl (DLe.refl _) (tellFr_v rfl rfl (tellFr_v rfl rfl trivial))), ?_⟩
  rintro ⟨i, hi, hall⟩
  by_cases h1 : i < l.length
  · have hw := congrArg (Value.int .i64) (wrap1 h1 (by omega))
    rw [drop_consG 0 l i h1] at hall
    unfold hasI at hall
    rw [List.any_cons] at hall
    refine bsplit_of_true (decide_eq_true (show (i : Int) < (l.length : Int) by omega)) ?_
    refine ask_intro ⟨by omega, by show (i : Int) < (l.length : Int); omega, rfl⟩ ?_
    refine bsplit_intro (fun h2 => ?_) (fun h2 => ?_)
    · have h2 : (l.getD i 0 == v) = true := h2
      rw [h2, Bool.true_or] at hall
      exact ⟨⟨congrArg Value.bool hall, trivial⟩, rfl⟩
    · have h2 : (l.getD i 0 == v) = false := h2
      rw [h2, Bool.false_or] at hall
      exact ⟨⟨i + 1, by omega, hall⟩, le_of [] rfl rfl rfl rfl trivial (tellFr_d rfl (DLe.refl _) (tellFr_v rfl rfl (tellFr_v rfl hw trivial))), by show l.length - (i + 1) < l.length - i; omega⟩
  · rw [List.drop_eq_nil_of_le (by omega)] at hall
    refine bsplit_of_false (decide_eq_false (show ¬ (i : Int) < (l.length : Int) by omega)) ?_
    exact ⟨⟨congrArg Value.bool hall, trivial⟩, rfl⟩
/-! ## owners -/
theorem dupS_nodup : ∀ {l S : List Int}, dupS S l = false → l.Nodup ∧ ∀ a ∈ l, a ∉ S
  | [], S, _ => ⟨List.nodup_nil, fun a h => by simp at h⟩
  | x :: l, S, h => by
    simp only [dupS, Bool.or_eq_false_iff] at h
    obtain ⟨h1, h2⟩ := dupS_nodup h.2
    have hx : x ∉ S := fun hm => by rw [hasI_mem'.2 hm] at h; simp at h
    refine ⟨List.nodup_cons.2 ⟨fun hm => h2 x hm (by simp), h1⟩, fun a ha => ?_⟩
    rcases List.mem_cons.1 ha with e | e
    · rw [e]; exact hx
    · exact fun hm => h2 a e (List.mem_append_left _ hm)
theorem own_nodup {x : PolM} (h : polFault x = 0) : x.own.flatten.Nodup := by
  unfold polFault at h
  split at h
  · rename_i ho
    unfold ownBad at ho
    cases hq : inR (x.own.length : Int) 1 3 with
    | false => rw [hq] at ho; simp at ho
    | true =>
      rw [hq, Bool.not_true, cond_false] at ho
      split at ho
      · cases hd : dupS [] x.own.flatten with
        | true => rw [hd] at ho; simp at ho
        | false => exact (dupS_nodup hd).1
      · rename_i e; exact absurd ho e
  · rename_i ho; exact absurd h ho
theorem flat_apart : ∀ {l : List (List Int)}, l.flatten.Nodup → ∀ i j, i < j → j < l.length → ∀ a, a ∈ l.getD i [] → a ∉ l.getD j []
  | [], _, i, j, _, hj, _, _ => absurd hj (by simp)
  | r :: l, h, i, j, hij, hj, a, ha => by
    rw [List.flatten_cons, List.nodup_append] at h
    obtain ⟨j, rfl⟩ : ∃ k, j = k + 1 := ⟨j - 1, by omega⟩
    have hj' : j < l.length := by simpa using hj
    show a ∉ l.getD j []
    cases i with
    | zero =>
      have ha : a ∈ r := ha
      intro hm
      refine h.2.2 a ha a (List.mem_flatten.2 ⟨l.getD j [], ?_, hm⟩) rfl
      rw [getD_at [] hj']; exact List.getElem_mem _
    | succ i => exact flat_apart (l := l) h.2.1 i j (by omega) hj' a ha
theorem idxG_first {α : Type} (d : α) {l : List α} {p : α → Bool} {i : Nat} (hi : i < l.length) (hp : p (l.getD i d) = true) : ∀ k, k ≤ i → (∀ j, i - k ≤ j → j < i → p (l.getD j d) = false) → idxG p l (i - k) = i
  | 0, _, _ => by rw [Nat.sub_zero]; exact idxG_hit d hi hp
  | k + 1, hk, h => by
    have e : i - (k + 1) + 1 = i - k := by omega
    rw [idxG_miss d (i := i - (k + 1)) (by omega) (h _ (Nat.le_refl _) (by omega)), e]
    exact idxG_first d hi hp k (by omega) (fun j h1 h2 => h j (by omega) h2)
theorem owner_at {x : PolM} (h : polFault x = 0) (i : Nat) (hi : i < x.own.length) (v : Int) (hv : v ∈ x.own.getD i []) : ownerP x.own v = i := by
  have hn := own_nodup h
  have := idxG_first (p := fun r => hasI r v) ([] : List Int) hi (hasI_mem'.2 hv) i (Nat.le_refl _) (fun j _ hj => by
    have := flat_apart hn j i hj hi v
    cases hb : hasI (x.own.getD j []) v with
    | false => rfl
    | true => exact absurd hv (this (hasI_mem'.1 hb)))
  rw [Nat.sub_self] at this
  exact this
theorem ownerOf_at {x : PolM} (h : polFault x = 0) (i : Nat) (hi : i < x.own.length) (v : Int) (hv : v ∈ x.own.getD i []) : ownerOf x v = (0, (i : Int)) := by
  unfold ownerOf
  rw [if_pos h, owner_at h i hi v hv, if_neg (by omega)]
/-! ## steps -/
def sumG (g : Int) : List SlotM → Int
  | [] => 0
  | s :: r => (if s.guest = g then s.steps else 0) + sumG g r
theorem sumG_b (g : Int) : ∀ {l : List SlotM}, stepsOK l → 0 ≤ sumG g l ∧ sumG g l ≤ sumS l
  | [], _ => by simp [sumG, sumS]
  | s :: r, h => by
    have h1 := h s (.head _)
    have h2 := sumG_b g (l := r) (fun x hx => h x (.tail _ hx))
    simp only [sumG, sumS]
    split <;> omega
theorem stW_sumG (g : Int) : ∀ (l : List SlotM) (n : Int), stepsOK l → 0 ≤ n → n + 50 * (l.length : Int) ≤ 1000000000 → stW (fun s => s.guest == g) l n = n + sumG g l
  | [], n, _, _, _ => by simp [stW, sumG]
  | s :: r, n, h, h0, hb => by
    have h1 := h s (.head _)
    simp only [List.length_cons] at hb
    have hw : IntKind.i64.wrap (n + s.steps) = n + s.steps := wrap_i64 _ (by omega) (by omega)
    show stW _ r (bif s.guest == g then IntKind.i64.wrap (n + s.steps) else n) = _
    simp only [sumG]
    by_cases hg : s.guest = g
    · rw [beq_iff_eq.2 hg, cond_true, hw, stW_sumG g r _ (fun x hx => h x (.tail _ hx)) (by omega) (by omega), if_pos hg]; omega
    · rw [beq_eq_false_iff_ne.2 hg, cond_false, stW_sumG g r _ (fun x hx => h x (.tail _ hx)) (by omega) (by omega), if_neg hg]; omega
def sumTo (l : List SlotM) : Nat → Int
  | 0 => 0
  | k + 1 => sumTo l k + sumG k l
theorem sumTo_cons (s : SlotM) (l : List SlotM) : ∀ n, sumTo (s :: l) n = (if 0 ≤ s.guest ∧ s.guest < (n : Int) then s.steps else 0) + sumTo l n
  | 0 => by
    show (0 : Int) = _ + 0
    rw [if_neg (by omega)]; omega
  | n + 1 => by
    show sumTo (s :: l) n + ((if s.guest = (n : Int) then s.steps else 0) + sumG n l) = _ + (sumTo l n + sumG n l)
    rw [sumTo_cons s l n]
    by_cases h1 : s.guest = (n : Int)
    · rw [if_pos h1, if_neg (by omega), if_pos (by omega)]; omega
    · rw [if_neg h1]
      by_cases h2 : 0 ≤ s.guest ∧ s.guest < (n : Int)
      · rw [if_pos h2, if_pos (by omega)]; omega
      · rw [if_neg h2, if_neg (by omega)]; omega
theorem sumTo_nil : ∀ n, sumTo [] n = 0
  | 0 => rfl
  | n + 1 => by show sumTo [] n + 0 = 0; rw [sumTo_nil n]; rfl
theorem sumTo_all : ∀ {l : List SlotM} {n : Nat}, (∀ s ∈ l, 0 ≤ s.guest ∧ s.guest < (n : Int)) → sumTo l n = sumS l
  | [], n, _ => sumTo_nil n
  | s :: l, n, h => by
    rw [sumTo_cons, if_pos (h s (.head _)), sumTo_all (l := l) (fun x hx => h x (.tail _ hx))]
    rfl
theorem plan_guest {x : PolM} (h : polFault x = 0) : ∀ s ∈ x.pln, 0 ≤ s.guest ∧ s.guest < (x.own.length : Int) := by
  have hp : planBad x.own.length x.pln = 0 := by
    unfold polFault at h
    split at h
    · cases hq : (decide (x.lns.length > 4) || decide (x.bls.length > 4)) with
      | true => rw [hq] at h; simp at h
      | false =>
        rw [hq, cond_false] at h
        split at h
        · split at h
          · exact h
          · rename_i e; exact absurd h e
        · rename_i e; exact absurd h e
    · rename_i e; exact absurd h e
  unfold planBad at hp
  cases hq : inR (x.pln.length : Int) 1 8 with
  | false => rw [hq] at hp; simp at hp
  | true =>
    rw [hq] at hp
    have hp : firstNZ (x.pln.map (slotBad x.own.length)) = 0 := hp
    intro s hs
    have h1 := firstNZ_all hp (slotBad x.own.length s) (List.mem_map.2 ⟨s, hs, rfl⟩)
    unfold slotBad at h1
    cases hg : guestB x.own.length s.guest with
    | false => rw [hg] at h1; simp at h1
    | true =>
      have := inR_iff.1 (show inR s.guest 0 _ = true from hg)
      omega
theorem sumTo_b {l : List SlotM} (h : stepsOK l) : ∀ n, 0 ≤ sumTo l n ∧ sumTo l n ≤ (n : Int) * sumS l
  | 0 => by simp [sumTo]
  | n + 1 => by
    have h1 := sumTo_b h n
    have h2 := sumG_b n h
    show 0 ≤ sumTo l n + sumG n l ∧ sumTo l n + sumG n l ≤ ((n + 1 : Nat) : Int) * sumS l
    have : ((n + 1 : Nat) : Int) * sumS l = (n : Int) * sumS l + sumS l := by
      rw [show ((n + 1 : Nat) : Int) = (n : Int) + 1 by omega, Int.add_mul, Int.one_mul]
    omega
theorem own_few3 {x : PolM} (h : polFault x = 0) : 1 ≤ x.own.length ∧ x.own.length ≤ 3 := by
  unfold polFault at h
  split at h
  · rename_i ho
    unfold ownBad at ho
    cases hq : inR (x.own.length : Int) 1 3 with
    | false => rw [hq] at ho; simp at ho
    | true => have := inR_iff.1 hq; omega
  · rename_i ho; exact absurd h ho
theorem asked_of {x : PolM} (h : polFault x = 0) (k : Nat) (hk : k < x.own.length) : askedG x k = 0 := by
  unfold askedG
  rw [if_pos h, show guestB x.own.length k = true from inR_iff.2 ⟨by omega, by omega⟩]
  rfl
theorem asked_pol2 {x : PolM} {g : Int} (h : askedG x g = 0) : polFault x = 0 := by
  unfold askedG at h
  split at h
  · assumption
  · rename_i e; exact absurd h e
theorem framesOf_at {x : PolM} (h : polFault x = 0) (k : Nat) (hk : k < x.own.length) : framesOf x k = (0, sumG k x.pln) := by
  unfold framesOf
  obtain ⟨p1, p2, p3⟩ := plan_ok h
  rw [if_pos (asked_of h k hk), stW_sumG k x.pln 0 p3 (by omega) (by omega)]
  simp
theorem roundOf_at {x : PolM} (h : polFault x = 0) : roundOf x = (0, sumS x.pln) := by
  unfold roundOf
  obtain ⟨p1, p2, p3⟩ := plan_ok h
  rw [if_pos h, stW_sum x.pln 0 p3 (by omega) (by omega)]
  simp
end Go.Proofs.Ytdpahckfibnagaa.L

/- What the functions compute that tell the words of a lonely machine's page: contracts. -/
set_option linter.unusedVariables false
set_option linter.unusedSimpArgs false
set_option maxRecDepth 100000
namespace Go.Proofs.Ytdpahckfibnagaa.L
open Go.RowKit
abbrev irsR (p : Int × List Int) : RV1 := .agg [.v (.int .i64 p.1), oInts p.2]
abbrev irsLV (p : Int × List Int) : LV := .agg [di p.1, .d (ints p.2)]
def soloWords (x : SoloM) (p : Int) : Int × List Int := if soloFault x = 0 then (bif !inR p 0 7 then (3, []) else (0, pageW x.mem p)) else (soloFault x, [])
theorem soloFault_mem {x : SoloM} (h : soloFault x = 0) : x.mem.length = 64 := by
  unfold soloFault at h
  split at h
  · split at h
    · cases hb : (memFault x.mem != 0) || ((x.mem.length : Int) != 64) with
      | true => rw [hb] at h; simp at h
      | false => simp only [Bool.or_eq_false_iff, bne_eq_false_iff_eq] at hb; omega
    · rename_i h2; exact absurd h h2
  · rename_i h2; exact absurd h h2
end Go.Proofs.Ytdpahckfibnagaa.L

/- What the law functions compute on an answer that is a code and a row of words: contracts. -/
set_option linter.unusedVariables false
set_option linter.unusedSimpArgs false
set_option maxRecDepth 100000
namespace Go.Proofs.Ytdpahckfibnagaa.L
open Go.RowKit
theorem c_laws_eqIntsResult (p q : Int × List Int) (hs : p.2.length ≤ 9223372036854775807) : FnOK Try.prog 36 [irsLV p, irsLV q] (rb (decide (p = q))) := by
  refine fn_of lv36 Try.func36 rfl rfl (by kernel_rfl) rfl ?_
  repeat' (first | refine bsplit_true ?_ | refine bsplit_false ?_ | refine .inl ⟨_, _, rfl, c_laws_eqInt64S p.2 q.2 hs, rfl, ?_⟩ | refine bsplit_intro (fun h => ?_) (fun h => ?_))
  all_goals refine ⟨⟨congrArg Value.bool ?_, trivial⟩, rfl⟩
  all_goals (obtain ⟨a1, a2⟩ := p; obtain ⟨b1, b2⟩ := q; simp_all)
theorem c_laws_markIntsResult (p : Int × List Int) (k : Int) (hf : p.2.length ≤ 1099511627776) (hk : 0 ≤ k) (hk2 : k ≤ 1099511627776) : MutOK Try.prog 38 [.agg [di p.1, .row 0], di k] 1 [(0, rowE p.2)] (di (k + p.2.length)) 1 [(0, rowM p.2 k)] := by
  refine mut_fn_of lv38 Try.func38 rfl rfl (by kernel_rfl) rfl [] ?_
  refine .inr ⟨rfl, use_mut ⟨_, _, _, _, _, _, rfl, rfl, c_laws_markInt64S p.2 k hf hk hk2, rfl, ?_⟩⟩
  exact chk_intro (by kernel_rfl) ⟨tellV_v rfl rfl, tellHp_row rfl rfl rfl (fun j hj => rfl) tellHp_nil⟩
theorem c_laws_heldIntsResult (p : Int × List Int) (k : Int) (hf : p.2.length ≤ 1099511627776) (hk : 0 ≤ k) (hk2 : k ≤ 1099511627776) : FnOK Try.prog 39 [.agg [di p.1, datM p.2 k], di k] (ri (k + p.2.length)) := by
  refine fn_of lv39 Try.func39 rfl rfl (by kernel_rfl) rfl ?_
  refine .inl ⟨_, _, rfl, c_laws_heldInt64S k p.2.length hf hk hk2, rfl, ?_⟩
  refine bsplit_of_false (decide_eq_false (show ¬ k + (p.2.length : Int) < 0 by omega)) ?_
  exact ⟨⟨rfl, trivial⟩, rfl⟩
end Go.Proofs.Ytdpahckfibnagaa.L

/- The free pages of a policy: contracts. -/
set_option linter.unusedVariables false
set_option linter.unusedSimpArgs false
set_option maxRecDepth 100000
namespace Go.Proofs.Ytdpahckfibnagaa.L
open Go.RowKit
theorem c_slices_IndexFunc_LaneI (g : Nat) (v : Int) (p : LaneM → Bool) (hg : ∀ x, FnOK Try.prog g [laneLV x, .dptr [dI v]] (rb (p x))) (l : List LaneM) (hl : l.length ≤ 4611686018427387904) : FnOK Try.prog 121 [.d (lanes l), .fn g [.dptr [dI v]]] (ri (idxG p l 0)) := by
  refine fn_of lv121 Try.func121 rfl rfl (by kernel_rfl) rfl ?_
  refine ⟨{ i : Nat // i ≤ l.length ∧ idxG p l i = idxG p l 0 }, fun i => ⟨frL [(0, .d (lanes l)), (1, .fn g [.dptr [dI v]]), (7, di l.length), (8, di i.1)], hpL [], 0, 0⟩, fun i => l.length - i.1, ⟨0, by omega, rfl⟩,
    le_of [] rfl rfl rfl rfl trivial (tellFr_d rfl (DLe.refl _) (tellFr_fn rfl ⟨⟨DLe.refl _, trivial⟩, trivial⟩ (tellFr_v rfl rfl (tellFr_v rfl rfl trivial)))), ?_⟩
  rintro ⟨i, hi, hall⟩
  refine bsplit_intro (fun h => ?_) (fun h => ?_)
  · have h : i < l.length := by simp at h; exact h
    refine ask_intro ⟨by omega, by simp; omega, rfl⟩ ?_
    refine .inl ⟨_, _, rfl, hg (l.getD i ⟨0, 0, 0, 0, 0⟩), rfl, ?_⟩
    refine bsplit_intro (fun h2 => ?_) (fun h2 => ?_)
    · exact ⟨⟨congrArg (Value.int .i64) ((idxG_hit ⟨0, 0, 0, 0, 0⟩ h h2).symm.trans hall), trivial⟩, rfl⟩
    · exact ⟨⟨i + 1, by omega, (idxG_miss ⟨0, 0, 0, 0, 0⟩ h h2).symm.trans hall⟩, le_of [] rfl rfl rfl rfl trivial (tellFr_d rfl (DLe.refl _) (tellFr_fn rfl ⟨⟨DLe.refl _, trivial⟩, trivial⟩ (tellFr_v rfl rfl (tellFr_v rfl (congrArg (Value.int .i64) (wrap1 h hl)) trivial)))), by show l.length - (i + 1) < l.length - i; omega⟩
  · simp at h
    exact ⟨⟨congrArg (Value.int .i64) ((idxG_end h).symm.trans hall), trivial⟩, rfl⟩
theorem c_impl_FreePages_1 (x : LaneM) (v : Int) : FnOK Try.prog 85 [laneLV x, .dptr [dI v]] (rb (x.page == v)) := by
  refine fn_of lv85 Try.func85 rfl rfl (by kernel_rfl) rfl ?_
  exact ⟨⟨rfl, trivial⟩, rfl⟩
theorem c_slices_ContainsFunc_LaneI (v : Int) (l : List LaneM) (hl : l.length ≤ 4611686018427387904) : FnOK Try.prog 84 [.d (lanes l), .fn 85 [.dptr [dI v]]] (rb (l.any fun x => x.page == v)) := by
  refine fn_of lv84 Try.func84 rfl rfl (by kernel_rfl) rfl ?_
  refine .inl ⟨_, _, rfl, c_slices_IndexFunc_LaneI 85 v (fun x => x.page == v) (fun x => c_impl_FreePages_1 x v) l hl, rfl, ?_⟩
  exact ⟨⟨congrArg Value.bool (idxG_any l _), trivial⟩, rfl⟩
def freeB (x : PolM) (v : Int) : Bool := decide (ownerP x.own v < 0) && !(x.lns.any fun l => l.page == v)
def freeR (p : Int → Bool) : Nat → Int → List Int
  | 0, _ => []
  | n + 1, v => if p v = true then v :: freeR p n (v + 1) else freeR p n (v + 1)
theorem freeR_len (p : Int → Bool) : ∀ (n : Nat) (v : Int), (freeR p n v).length ≤ n
  | 0, _ => Nat.le_refl _
  | n + 1, v => by
    have := freeR_len p n (v + 1)
    simp only [freeR]
    split
    · simp only [List.length_cons]; omega
    · omega
def freePages (x : PolM) : Int × List Int := if polFault x = 0 then (0, freeR (freeB x) 24 0) else (polFault x, [])
theorem freePages_few (x : PolM) : (freePages x).2.length ≤ 1048576 := by
  unfold freePages
  split
  · have := freeR_len (freeB x) 24 0
    simp only; omega
  · simp
set_option maxHeartbeats 1600000 in
theorem c_impl_FreePages (x : PolM) (hs : x.small) : FnOK Try.prog 35 [polLV x] (.r (irsR (freePages x))) := by
  have hl := hs.lns
  have c1 := c_impl_PolicyFault x hs
  obtain ⟨r, hr⟩ : ∃ r, r = freePages x := ⟨_, rfl⟩
  rw [← hr]
  unfold freePages at hr
  generalize polFault x = e at *
  obtain ⟨V, hV⟩ : ∃ V, V = freeR (freeB x) 24 0 := ⟨_, rfl⟩
  rw [← hV] at hr
  refine fn_of lv35 Try.func35 rfl rfl (by kernel_rfl) rfl ?_
  refine .inl ⟨_, _, rfl, c1, rfl, ?_⟩
  refine bsplit_intro (fun h => ?_) (fun h => ?_)
  · rw [if_neg (by simpa using h)] at hr
    subst hr
    exact ⟨⟨rfl, ⟨rfl, rfl⟩, trivial⟩, rfl⟩
  rw [if_pos (by simpa using h)] at hr
  refine ⟨{ p : Nat × List Int // p.1 ≤ 24 ∧ p.2.length ≤ p.1 ∧ p.2 ++ freeR (freeB x) (24 - p.1) p.1 = V }, fun p => ⟨frL [(1, .ptr 64 0), (2, .ptr 65 0), (4, .row 67), (5, .ptr 66 0)], hpL [(64, .box 34 [.d (owns x.own), .d (lanes x.lns), .d (bells x.bls), .d (slots x.pln)]), (65, .box 58 [di 0, .d (.v (.slice none 0 0))]), (66, .box 2 [di p.1.1]), (67, .row 2 1 p.1.2.length (intsF p.1.2))], 96, 0⟩, fun p => 24 - p.1.1, ⟨(0, []), by omega, by simp, hV.symm⟩,
    le_of [(64, 0), (65, 32), (66, 16384), (67, 12288)] rfl rfl rfl rfl (tellHp_box rfl rfl ⟨DLe.refl _, DLe.refl _, DLe.refl _, DLe.refl _, trivial⟩ (tellHp_box rfl rfl ⟨rfl, rfl, trivial⟩ (tellHp_box rfl rfl ⟨rfl, trivial⟩ (tellHp_row rfl rfl rfl (fun j hj => absurd hj (Nat.not_lt_zero _)) tellHp_nil)))) (tellFr_ptr rfl rfl (tellFr_ptr rfl rfl (tellFr_row rfl rfl (tellFr_ptr rfl rfl trivial)))), ?_⟩
  rintro ⟨⟨k, S⟩, hk, hSl, hall⟩
  simp only at hk hSl hall
  by_cases h1 : k < 24
  rotate_left
  · obtain rfl : k = 24 := by omega
    have hall : S ++ [] = V := hall
    rw [List.append_nil] at hall
    subst hall
    refine bsplit_of_false (decide_eq_false (show ¬ ((24 : Nat) : Int) < 24 by omega)) ?_
    subst hr
    exact ⟨⟨rfl, ⟨rfl, rfl, rfl, fun j hj => ⟨rfl, rfl⟩⟩, trivial⟩, rfl⟩
  obtain ⟨n, hn⟩ : ∃ n, 24 - k = n + 1 := ⟨23 - k, by omega⟩
  have hn2 : 24 - (k + 1) = n := by omega
  rw [hn] at hall
  have hstep : freeR (freeB x) (n + 1) k = if freeB x k = true then (k : Int) :: freeR (freeB x) n (k + 1) else freeR (freeB x) n (k + 1) := rfl
  rw [hstep] at hall
  have c2 := c_impl_owner x hs k
  have c3 := c_slices_ContainsFunc_LaneI k x.lns (by omega)
  have hnext : ∀ b, freeB x k = b → (if b = true then S ++ [(k : Int)] else S) ++ freeR (freeB x) n ((k + 1 : Nat) : Int) = V := fun b hb => by
    rw [hb] at hall
    cases b with
    | true =>
      rw [if_pos rfl] at hall ⊢
      rw [← hall]; simp
    | false =>
      rw [if_neg (by decide)] at hall ⊢
      exact hall
  unfold freeB at hnext
  generalize ownerP x.own k = ow at hnext c2
  generalize x.lns.any (fun l => l.page == (k : Int)) = an at hnext c3
  refine bsplit_of_true (decide_eq_true (by show (k : Int) < 24; omega)) ?_
  refine .inl ⟨_, _, rfl, c2, rfl, ?_⟩
  refine bsplit_intro (fun h2 => ?_) (fun h2 => ?_)
  · have h2 : decide (ow < 0) = true := h2
    rw [h2] at hnext
    repeat' (first | refine bsplit_true ?_ | refine bsplit_false ?_)
    refine .inl ⟨_, _, rfl, c3, rfl, ?_⟩
    cases an with
    | true =>
      have hnx := hnext false rfl
      repeat' (first | refine bsplit_true ?_ | refine bsplit_false ?_)
      refine ⟨⟨(k + 1, S), by show k + 1 ≤ 24; omega, by show S.length ≤ k + 1; omega, by show S ++ freeR _ (24 - (k + 1)) _ = V; rw [hn2]; exact hnx⟩, le_of [(64, 64), (65, 65), (66, 12384), (67, 67)] rfl rfl rfl rfl (tellHp_box rfl rfl ⟨DLe.refl _, DLe.refl _, DLe.refl _, DLe.refl _, trivial⟩ (tellHp_box rfl rfl ⟨rfl, rfl, trivial⟩ (tellHp_box rfl rfl ⟨congrArg (Value.int .i64) (wrap1 (show k < 25 by omega) (by omega)), trivial⟩ (tellHp_row rfl rfl rfl (fun j hj => rfl) tellHp_nil)))) (tellFr_ptr rfl rfl (tellFr_ptr rfl rfl (tellFr_row rfl rfl (tellFr_ptr rfl rfl trivial)))), by show 24 - (k + 1) < 24 - k; omega⟩
    | false =>
      have hnx := hnext true rfl
      repeat' (first | refine bsplit_true ?_ | refine bsplit_false ?_)
      refine ask_intro ⟨by show (S.length + 1) * 8 ≤ _; omega, by show S.length + 1 ≤ 9223372036854775807; omega, fun q hq => ?_⟩ ?_
      · obtain rfl : q = 0 := by omega
        rfl
      refine ⟨⟨(k + 1, S ++ [(k : Int)]), by show k + 1 ≤ 24; omega, by show (S ++ [(k : Int)]).length ≤ k + 1; simp; omega, by show (S ++ [(k : Int)]) ++ freeR _ (24 - (k + 1)) _ = V; rw [hn2]; exact hnx⟩, le_of [(64, 64), (65, 65), (66, 16480), (67, 8384)] rfl rfl rfl rfl (tellHp_box rfl rfl ⟨DLe.refl _, DLe.refl _, DLe.refl _, DLe.refl _, trivial⟩ (tellHp_box rfl rfl ⟨rfl, rfl, trivial⟩ (tellHp_box rfl rfl ⟨congrArg (Value.int .i64) (wrap1 (show k < 25 by omega) (by omega)), trivial⟩ (tellHp_row rfl rfl (show S.length + 1 = (S ++ [(k : Int)]).length by simp) (fun q hq => upto_snoc S _ _ rfl q hq) tellHp_nil)))) (tellFr_ptr rfl rfl (tellFr_ptr rfl rfl (tellFr_row rfl rfl (tellFr_ptr rfl rfl trivial)))), by show 24 - (k + 1) < 24 - k; omega⟩
  · have h2 : decide (ow < 0) = false := h2
    rw [h2] at hnext
    have hnx := hnext false rfl
    repeat' (first | refine bsplit_true ?_ | refine bsplit_false ?_)
    refine ⟨⟨(k + 1, S), by show k + 1 ≤ 24; omega, by show S.length ≤ k + 1; omega, by show S ++ freeR _ (24 - (k + 1)) _ = V; rw [hn2]; exact hnx⟩, le_of [(64, 64), (65, 65), (66, 12384), (67, 67)] rfl rfl rfl rfl (tellHp_box rfl rfl ⟨DLe.refl _, DLe.refl _, DLe.refl _, DLe.refl _, trivial⟩ (tellHp_box rfl rfl ⟨rfl, rfl, trivial⟩ (tellHp_box rfl rfl ⟨congrArg (Value.int .i64) (wrap1 (show k < 25 by omega) (by omega)), trivial⟩ (tellHp_row rfl rfl rfl (fun j hj => rfl) tellHp_nil)))) (tellFr_ptr rfl rfl (tellFr_ptr rfl rfl (tellFr_row rfl rfl (tellFr_ptr rfl rfl trivial)))), by show 24 - (k + 1) < 24 - k; omega⟩
theorem one_row (x : Int) (g : Nat → List D) (hg : g 0 = [.v (.int .i64 x)]) (q : Nat) (hq : q < 1) : g q = intsF ([] ++ [x]) q := by
  obtain rfl : q = 0 := by omega
  rw [hg]; rfl
set_option maxHeartbeats 3200000 in
theorem c_spec_FreePages (x : PolM) (hs : x.small) : FnOK Try.prog 34 [polLV x] (.r (irsR (freePages x))) := by
  have hl := hs.lns
  have c1 := c_spec_l6Fault x hs
  obtain ⟨r, hr⟩ : ∃ r, r = freePages x := ⟨_, rfl⟩
  rw [← hr]
  unfold freePages at hr
  generalize polFault x = e at *
  obtain ⟨V, hV⟩ : ∃ V, V = freeR (freeB x) 24 0 := ⟨_, rfl⟩
  rw [← hV] at hr
  refine fn_of lv34 Try.func34 rfl rfl (by kernel_rfl) rfl ?_
  refine .inl ⟨_, _, rfl, c1, rfl, ?_⟩
  refine bsplit_intro (fun h => ?_) (fun h => ?_)
  · rw [if_neg (by simpa using h)] at hr
    subst hr
    exact ⟨⟨rfl, ⟨rfl, rfl⟩, trivial⟩, rfl⟩
  rw [if_pos (by simpa using h)] at hr
  refine ⟨{ p : Nat × List Int × Bool // p.1 ≤ 24 ∧ p.2.1.length ≤ p.1 ∧ p.2.1 ++ freeR (freeB x) (24 - p.1) p.1 = V ∧ (p.2.2 = false → p.2.1 = []) }, fun p => match p.1.2.2 with
    | true => ⟨frL [(1, .ptr 64 0), (2, .ptr 65 0), (4, .ptr 66 0), (5, di p.1.1)], hpL [(64, .box 34 [.d (owns x.own), .d (lanes x.lns), .d (bells x.bls), .d (slots x.pln)]), (65, .box 58 [di 0, .d (.v (.slice none 0 0))]), (66, .box 58 [di 0, .row 67]), (67, .row 2 1 (p.1.2.1).length (intsF (p.1.2.1)))], 96, 0⟩
    | false => ⟨frL [(1, .ptr 64 0), (2, .ptr 65 0), (4, .ptr 66 0), (5, di p.1.1)], hpL [(64, .box 34 [.d (owns x.own), .d (lanes x.lns), .d (bells x.bls), .d (slots x.pln)]), (65, .box 58 [di 0, .d (.v (.slice none 0 0))]), (66, .box 58 [di 0, .d (.v (.slice none 0 0))])], 96, 0⟩, fun p => 24 - p.1.1, ⟨(0, [], false), by omega, by simp, hV.symm, fun _ => rfl⟩,
    le_of [(64, 0), (65, 32), (66, 12320)] rfl rfl rfl rfl (tellHp_box rfl rfl ⟨DLe.refl _, DLe.refl _, DLe.refl _, DLe.refl _, trivial⟩ (tellHp_box rfl rfl ⟨rfl, rfl, trivial⟩ (tellHp_box rfl rfl ⟨rfl, rfl, trivial⟩ tellHp_nil))) (tellFr_ptr rfl rfl (tellFr_ptr rfl rfl (tellFr_ptr rfl rfl (tellFr_v rfl rfl trivial)))), ?_⟩
  rintro ⟨⟨k, S, fl⟩, hk, hSl, hall, hnil⟩
  simp only at hk hSl hall hnil
  cases fl with
  | true =>
    by_cases h1 : k < 24
    rotate_left
    · obtain rfl : k = 24 := by omega
      have hall : S ++ [] = V := hall
      rw [List.append_nil] at hall
      subst hall
      refine bsplit_of_false (decide_eq_false (show ¬ ((24 : Nat) : Int) < 24 by omega)) ?_
      subst hr
      exact ⟨⟨rfl, ⟨rfl, rfl, rfl, fun j hj => ⟨rfl, rfl⟩⟩, trivial⟩, rfl⟩
    obtain ⟨n, hn⟩ : ∃ n, 24 - k = n + 1 := ⟨23 - k, by omega⟩
    have hn2 : 24 - (k + 1) = n := by omega
    rw [hn] at hall
    have hstep : freeR (freeB x) (n + 1) k = if freeB x k = true then (k : Int) :: freeR (freeB x) n (k + 1) else freeR (freeB x) n (k + 1) := rfl
    rw [hstep] at hall
    have c2 := c_spec_l6Owner x hs k
    have hnext : ∀ b, freeB x k = b → (if b = true then S ++ [(k : Int)] else S) ++ freeR (freeB x) n ((k + 1 : Nat) : Int) = V := fun b hb => by
      rw [hb] at hall
      cases b with
      | true =>
        rw [if_pos rfl] at hall ⊢
        rw [← hall]; simp
      | false =>
        rw [if_neg (by decide)] at hall ⊢
        exact hall
    refine bsplit_of_true (decide_eq_true (by show (k : Int) < 24; omega)) ?_
    refine .inl ⟨_, _, rfl, c2, rfl, ?_⟩
    refine ⟨{ p : Nat × Bool // p.1 ≤ x.lns.length ∧ (p.2 && !((x.lns.drop p.1).any fun l => l.page == (k : Int))) = freeB x k }, fun p => ⟨frL [(1, .ptr 64 0), (2, .ptr 65 0), (4, .ptr 66 0), (5, di k), (6, dv (.bool p.1.2)), (7, di p.1.1)], hpL [(64, .box 34 [.d (owns x.own), .d (lanes x.lns), .d (bells x.bls), .d (slots x.pln)]), (65, .box 58 [di 0, .d (.v (.slice none 0 0))]), (66, .box 58 [di 0, .row 67]), (67, .row 2 1 (S).length (intsF (S)))], 96, 0⟩, fun p => x.lns.length - p.1.1, ⟨(0, decide (ownerP x.own k < 0)), by omega, rfl⟩,
      le_of [(64, 64), (65, 65), (66, 66), (67, 67)] rfl rfl rfl rfl (tellHp_box rfl rfl ⟨DLe.refl _, DLe.refl _, DLe.refl _, DLe.refl _, trivial⟩ (tellHp_box rfl rfl ⟨rfl, rfl, trivial⟩ (tellHp_box rfl rfl ⟨rfl, rfl, trivial⟩ (tellHp_row rfl rfl rfl (fun j hj => rfl) tellHp_nil)))) (tellFr_ptr rfl rfl (tellFr_ptr rfl rfl (tellFr_ptr rfl rfl (tellFr_v rfl rfl (tellFr_v rfl rfl (tellFr_v rfl rfl trivial)))))), ?_⟩
    rintro ⟨⟨q, f⟩, hq, hf⟩
    simp only at hq hf
    by_cases h3 : q < x.lns.length
    · rw [drop_anyG ⟨0, 0, 0, 0, 0⟩ _ _ q h3] at hf
      refine bsplit_of_true (decide_eq_true (by show (q : Int) < (x.lns.length : Int); omega)) ?_
      refine bsplit_intro (fun h4 => ?_) (fun h4 => ?_)
      · have h4 : f = true := h4
        subst h4
        repeat' (first | refine bsplit_true ?_ | refine bsplit_false ?_)
        refine ask_intro ⟨by omega, by show (q : Int) < (x.lns.length : Int); omega, rfl⟩ ?_
        repeat' (first | refine bsplit_true ?_ | refine bsplit_false ?_)
        exact ⟨⟨(q + 1, (x.lns.getD q ⟨0, 0, 0, 0, 0⟩).page != (k : Int)), by show q + 1 ≤ _; omega, by rw [← hf]; show (!((x.lns.getD q ⟨0, 0, 0, 0, 0⟩).page == (k : Int)) && _) = _; rw [Bool.true_and, Bool.not_or]⟩, le_of [(64, 64), (65, 65), (66, 66), (67, 67)] rfl rfl rfl rfl (tellHp_box rfl rfl ⟨DLe.refl _, DLe.refl _, DLe.refl _, DLe.refl _, trivial⟩ (tellHp_box rfl rfl ⟨rfl, rfl, trivial⟩ (tellHp_box rfl rfl ⟨rfl, rfl, trivial⟩ (tellHp_row rfl rfl rfl (fun j hj => rfl) tellHp_nil)))) (tellFr_ptr rfl rfl (tellFr_ptr rfl rfl (tellFr_ptr rfl rfl (tellFr_v rfl rfl (tellFr_v rfl rfl (tellFr_v rfl (congrArg (Value.int .i64) (wrap1 h3 (by omega))) trivial)))))), by show x.lns.length - (q + 1) < x.lns.length - q; omega⟩
      · have h4 : f = false := h4
        subst h4
        repeat' (first | refine bsplit_true ?_ | refine bsplit_false ?_)
        exact ⟨⟨(q + 1, false), by show q + 1 ≤ _; omega, by rw [← hf]; rfl⟩, le_of [(64, 64), (65, 65), (66, 66), (67, 67)] rfl rfl rfl rfl (tellHp_box rfl rfl ⟨DLe.refl _, DLe.refl _, DLe.refl _, DLe.refl _, trivial⟩ (tellHp_box rfl rfl ⟨rfl, rfl, trivial⟩ (tellHp_box rfl rfl ⟨rfl, rfl, trivial⟩ (tellHp_row rfl rfl rfl (fun j hj => rfl) tellHp_nil)))) (tellFr_ptr rfl rfl (tellFr_ptr rfl rfl (tellFr_ptr rfl rfl (tellFr_v rfl rfl (tellFr_v rfl rfl (tellFr_v rfl (congrArg (Value.int .i64) (wrap1 h3 (by omega))) trivial)))))), by show x.lns.length - (q + 1) < x.lns.length - q; omega⟩
    rw [List.drop_eq_nil_of_le (by omega)] at hf
    have hf : (f && true) = freeB x k := hf
    rw [Bool.and_true] at hf
    have hnx := hnext f hf.symm
    refine bsplit_of_false (decide_eq_false (by show ¬ (q : Int) < (x.lns.length : Int); omega)) ?_
    refine bsplit_intro (fun h4 => ?_) (fun h4 => ?_)
    · have h4 : f = true := h4
      subst h4
      refine ask_intro ⟨by show (S.length + 1) * 8 ≤ _; omega, by show (S.length + 1) ≤ 9223372036854775807; omega, fun q hq => ?_⟩ ?_
      · obtain rfl : q = 0 := by omega
        rfl
      exact ⟨⟨(k + 1, S ++ [(k : Int)], true), by show k + 1 ≤ 24; omega, by show (S ++ [(k : Int)]).length ≤ k + 1; simp; omega, by show (S ++ [(k : Int)]) ++ freeR _ (24 - (k + 1)) _ = V; rw [hn2]; exact hnx, fun e => nomatch e⟩, le_of [(64, 64), (65, 65), (66, 66), (67, 8416)] rfl rfl rfl rfl (tellHp_box rfl rfl ⟨DLe.refl _, DLe.refl _, DLe.refl _, DLe.refl _, trivial⟩ (tellHp_box rfl rfl ⟨rfl, rfl, trivial⟩ (tellHp_box rfl rfl ⟨rfl, rfl, trivial⟩ (tellHp_row rfl rfl (show S.length + 1 = (S ++ [(k : Int)]).length by simp) (fun q hq => upto_snoc S _ _ rfl q hq) tellHp_nil)))) (tellFr_ptr rfl rfl (tellFr_ptr rfl rfl (tellFr_ptr rfl rfl (tellFr_v rfl (congrArg (Value.int .i64) (wrap1 (show k < 25 by omega) (by omega))) trivial)))), by show 24 - (k + 1) < 24 - k; omega⟩
    · have h4 : f = false := h4
      subst h4
      exact ⟨⟨(k + 1, S, true), by show k + 1 ≤ 24; omega, by show S.length ≤ k + 1; omega, by show S ++ freeR _ (24 - (k + 1)) _ = V; rw [hn2]; exact hnx, fun e => nomatch e⟩, le_of [(64, 64), (65, 65), (66, 66), (67, 67)] rfl rfl rfl rfl (tellHp_box rfl rfl ⟨DLe.refl _, DLe.refl _, DLe.refl _, DLe.refl _, trivial⟩ (tellHp_box rfl rfl ⟨rfl, rfl, trivial⟩ (tellHp_box rfl rfl ⟨rfl, rfl, trivial⟩ (tellHp_row rfl rfl rfl (fun j hj => rfl) tellHp_nil)))) (tellFr_ptr rfl rfl (tellFr_ptr rfl rfl (tellFr_ptr rfl rfl (tellFr_v rfl (congrArg (Value.int .i64) (wrap1 (show k < 25 by omega) (by omega))) trivial)))), by show 24 - (k + 1) < 24 - k; omega⟩
  | false =>
    obtain rfl : S = [] := hnil rfl
    by_cases h1 : k < 24
    rotate_left
    · obtain rfl : k = 24 := by omega
      have hall : [] ++ [] = V := hall
      rw [List.append_nil] at hall
      subst hall
      refine bsplit_of_false (decide_eq_false (show ¬ ((24 : Nat) : Int) < 24 by omega)) ?_
      subst hr
      exact ⟨⟨rfl, ⟨rfl, rfl⟩, trivial⟩, rfl⟩
    obtain ⟨n, hn⟩ : ∃ n, 24 - k = n + 1 := ⟨23 - k, by omega⟩
    have hn2 : 24 - (k + 1) = n := by omega
    rw [hn] at hall
    have hstep : freeR (freeB x) (n + 1) k = if freeB x k = true then (k : Int) :: freeR (freeB x) n (k + 1) else freeR (freeB x) n (k + 1) := rfl
    rw [hstep] at hall
    have c2 := c_spec_l6Owner x hs k
    have hnext : ∀ b, freeB x k = b → (if b = true then [] ++ [(k : Int)] else []) ++ freeR (freeB x) n ((k + 1 : Nat) : Int) = V := fun b hb => by
      rw [hb] at hall
      cases b with
      | true =>
        rw [if_pos rfl] at hall ⊢
        rw [← hall]; simp
      | false =>
        rw [if_neg (by decide)] at hall ⊢
        exact hall
    refine bsplit_of_true (decide_eq_true (by show (k : Int) < 24; omega)) ?_
    refine .inl ⟨_, _, rfl, c2, rfl, ?_⟩
    refine ⟨{ p : Nat × Bool // p.1 ≤ x.lns.length ∧ (p.2 && !((x.lns.drop p.1).any fun l => l.page == (k : Int))) = freeB x k }, fun p => ⟨frL [(1, .ptr 64 0), (2, .ptr 65 0), (4, .ptr 66 0), (5, di k), (6, dv (.bool p.1.2)), (7, di p.1.1)], hpL [(64, .box 34 [.d (owns x.own), .d (lanes x.lns), .d (bells x.bls), .d (slots x.pln)]), (65, .box 58 [di 0, .d (.v (.slice none 0 0))]), (66, .box 58 [di 0, .d (.v (.slice none 0 0))])], 96, 0⟩, fun p => x.lns.length - p.1.1, ⟨(0, decide (ownerP x.own k < 0)), by omega, rfl⟩,
      le_of [(64, 64), (65, 65), (66, 66)] rfl rfl rfl rfl (tellHp_box rfl rfl ⟨DLe.refl _, DLe.refl _, DLe.refl _, DLe.refl _, trivial⟩ (tellHp_box rfl rfl ⟨rfl, rfl, trivial⟩ (tellHp_box rfl rfl ⟨rfl, rfl, trivial⟩ tellHp_nil))) (tellFr_ptr rfl rfl (tellFr_ptr rfl rfl (tellFr_ptr rfl rfl (tellFr_v rfl rfl (tellFr_v rfl rfl (tellFr_v rfl rfl trivial)))))), ?_⟩
    rintro ⟨⟨q, f⟩, hq, hf⟩
    simp only at hq hf
    by_cases h3 : q < x.lns.length
    · rw [drop_anyG ⟨0, 0, 0, 0, 0⟩ _ _ q h3] at hf
      refine bsplit_of_true (decide_eq_true (by show (q : Int) < (x.lns.length : Int); omega)) ?_
      refine bsplit_intro (fun h4 => ?_) (fun h4 => ?_)
      · have h4 : f = true := h4
        subst h4
        repeat' (first | refine bsplit_true ?_ | refine bsplit_false ?_)
        refine ask_intro ⟨by omega, by show (q : Int) < (x.lns.length : Int); omega, rfl⟩ ?_
        repeat' (first | refine bsplit_true ?_ | refine bsplit_false ?_)
        exact ⟨⟨(q + 1, (x.lns.getD q ⟨0, 0, 0, 0, 0⟩).page != (k : Int)), by show q + 1 ≤ _; omega, by rw [← hf]; show (!((x.lns.getD q ⟨0, 0, 0, 0, 0⟩).page == (k : Int)) && _) = _; rw [Bool.true_and, Bool.not_or]⟩, le_of [(64, 64), (65, 65), (66, 66)] rfl rfl rfl rfl (tellHp_box rfl rfl ⟨DLe.refl _, DLe.refl _, DLe.refl _, DLe.refl _, trivial⟩ (tellHp_box rfl rfl ⟨rfl, rfl, trivial⟩ (tellHp_box rfl rfl ⟨rfl, rfl, trivial⟩ tellHp_nil))) (tellFr_ptr rfl rfl (tellFr_ptr rfl rfl (tellFr_ptr rfl rfl (tellFr_v rfl rfl (tellFr_v rfl rfl (tellFr_v rfl (congrArg (Value.int .i64) (wrap1 h3 (by omega))) trivial)))))), by show x.lns.length - (q + 1) < x.lns.length - q; omega⟩
      · have h4 : f = false := h4
        subst h4
        repeat' (first | refine bsplit_true ?_ | refine bsplit_false ?_)
        exact ⟨⟨(q + 1, false), by show q + 1 ≤ _; omega, by rw [← hf]; rfl⟩, le_of [(64, 64), (65, 65), (66, 66)] rfl rfl rfl rfl (tellHp_box rfl rfl ⟨DLe.refl _, DLe.refl _, DLe.refl _, DLe.refl _, trivial⟩ (tellHp_box rfl rfl ⟨rfl, rfl, trivial⟩ (tellHp_box rfl rfl ⟨rfl, rfl, trivial⟩ tellHp_nil))) (tellFr_ptr rfl rfl (tellFr_ptr rfl rfl (tellFr_ptr rfl rfl (tellFr_v rfl rfl (tellFr_v rfl rfl (tellFr_v rfl (congrArg (Value.int .i64) (wrap1 h3 (by omega))) trivial)))))), by show x.lns.length - (q + 1) < x.lns.length - q; omega⟩
    rw [List.drop_eq_nil_of_le (by omega)] at hf
    have hf : (f && true) = freeB x k := hf
    rw [Bool.and_true] at hf
    have hnx := hnext f hf.symm
    refine bsplit_of_false (decide_eq_false (by show ¬ (q : Int) < (x.lns.length : Int); omega)) ?_
    refine bsplit_intro (fun h4 => ?_) (fun h4 => ?_)
    · have h4 : f = true := h4
      subst h4
      refine ask_intro ⟨by show 1 * 8 ≤ _; omega, by show 1 ≤ 9223372036854775807; omega, fun q hq => ?_⟩ ?_
      · obtain rfl : q = 0 := by omega
        rfl
      exact ⟨⟨(k + 1, [] ++ [(k : Int)], true), by show k + 1 ≤ 24; omega, by show ([] ++ [(k : Int)]).length ≤ k + 1; simp <;> omega, by show ([] ++ [(k : Int)]) ++ freeR _ (24 - (k + 1)) _ = V; rw [hn2]; exact hnx, fun e => nomatch e⟩, le_of [(64, 64), (65, 65), (66, 66), (67, 8416)] rfl rfl rfl rfl (tellHp_box rfl rfl ⟨DLe.refl _, DLe.refl _, DLe.refl _, DLe.refl _, trivial⟩ (tellHp_box rfl rfl ⟨rfl, rfl, trivial⟩ (tellHp_box rfl rfl ⟨rfl, rfl, trivial⟩ (tellHp_row rfl rfl (show 1 = ([] ++ [(k : Int)]).length by simp) (fun q hq => one_row (k : Int) (fun i => [[D.v (Value.int .i64 (k : Int))]].getD i []) rfl q hq) tellHp_nil)))) (tellFr_ptr rfl rfl (tellFr_ptr rfl rfl (tellFr_ptr rfl rfl (tellFr_v rfl (congrArg (Value.int .i64) (wrap1 (show k < 25 by omega) (by omega))) trivial)))), by show 24 - (k + 1) < 24 - k; omega⟩
    · have h4 : f = false := h4
      subst h4
      exact ⟨⟨(k + 1, [], false), by show k + 1 ≤ 24; omega, by show ([] : List Int).length ≤ k + 1; omega, by show [] ++ freeR _ (24 - (k + 1)) _ = V; rw [hn2]; exact hnx, fun _ => rfl⟩, le_of [(64, 64), (65, 65), (66, 66)] rfl rfl rfl rfl (tellHp_box rfl rfl ⟨DLe.refl _, DLe.refl _, DLe.refl _, DLe.refl _, trivial⟩ (tellHp_box rfl rfl ⟨rfl, rfl, trivial⟩ (tellHp_box rfl rfl ⟨rfl, rfl, trivial⟩ tellHp_nil))) (tellFr_ptr rfl rfl (tellFr_ptr rfl rfl (tellFr_ptr rfl rfl (tellFr_v rfl (congrArg (Value.int .i64) (wrap1 (show k < 25 by omega) (by omega))) trivial)))), by show 24 - (k + 1) < 24 - k; omega⟩

end Go.Proofs.Ytdpahckfibnagaa.L

/- Who has a link to a guest: contracts. -/
set_option linter.unusedVariables false
set_option linter.unusedSimpArgs false
set_option maxRecDepth 100000
namespace Go.Proofs.Ytdpahckfibnagaa.L
open Go.RowKit
theorem c_slices_IndexFunc_LaneII (g : Nat) (a b : Int) (p : LaneM → Bool) (hg : ∀ x, FnOK Try.prog g [laneLV x, .dptr [dI a], .dptr [dI b]] (rb (p x))) (l : List LaneM) (hl : l.length ≤ 4611686018427387904) : FnOK Try.prog 121 [.d (lanes l), .fn g [.dptr [dI a], .dptr [dI b]]] (ri (idxG p l 0)) := by
  refine fn_of lv121 Try.func121 rfl rfl (by kernel_rfl) rfl ?_
  refine ⟨{ i : Nat // i ≤ l.length ∧ idxG p l i = idxG p l 0 }, fun i => ⟨frL [(0, .d (lanes l)), (1, .fn g [.dptr [dI a], .dptr [dI b]]), (7, di l.length), (8, di i.1)], hpL [], 0, 0⟩, fun i => l.length - i.1, ⟨0, by omega, rfl⟩,
    le_of [] rfl rfl rfl rfl trivial (tellFr_d rfl (DLe.refl _) (tellFr_fn rfl ⟨⟨DLe.refl _, trivial⟩, ⟨DLe.refl _, trivial⟩, trivial⟩ (tellFr_v rfl rfl (tellFr_v rfl rfl trivial)))), ?_⟩
  rintro ⟨i, hi, hall⟩
  refine bsplit_intro (fun h => ?_) (fun h => ?_)
  · have h : i < l.length := by simp at h; exact h
    refine ask_intro ⟨by omega, by simp; omega, rfl⟩ ?_
    refine .inl ⟨_, _, rfl, hg (l.getD i ⟨0, 0, 0, 0, 0⟩), rfl, ?_⟩
    refine bsplit_intro (fun h2 => ?_) (fun h2 => ?_)
    · exact ⟨⟨congrArg (Value.int .i64) ((idxG_hit ⟨0, 0, 0, 0, 0⟩ h h2).symm.trans hall), trivial⟩, rfl⟩
    · exact ⟨⟨i + 1, by omega, (idxG_miss ⟨0, 0, 0, 0, 0⟩ h h2).symm.trans hall⟩, le_of [] rfl rfl rfl rfl trivial (tellFr_d rfl (DLe.refl _) (tellFr_fn rfl ⟨⟨DLe.refl _, trivial⟩, ⟨DLe.refl _, trivial⟩, trivial⟩ (tellFr_v rfl rfl (tellFr_v rfl (congrArg (Value.int .i64) (wrap1 h hl)) trivial)))), by show l.length - (i + 1) < l.length - i; omega⟩
  · simp at h
    exact ⟨⟨congrArg (Value.int .i64) ((idxG_end h).symm.trans hall), trivial⟩, rfl⟩
abbrev laneAB (a b : Int) (z : LaneM) : Bool := z.frm == a && z.to == b
theorem c_impl_links_1 (x : LaneM) (a b : Int) : FnOK Try.prog 135 [laneLV x, .dptr [dI a], .dptr [dI b]] (rb (laneAB a b x)) := by
  generalize hv : laneAB a b x = v
  unfold laneAB at hv
  refine fn_of lv135 Try.func135 rfl rfl (by kernel_rfl) rfl ?_
  repeat' (first | refine bsplit_true ?_ | refine bsplit_false ?_ | refine bsplit_intro (fun h => ?_) (fun h => ?_))
  all_goals refine ⟨⟨congrArg Value.bool ?_, trivial⟩, rfl⟩
  all_goals simp_all
theorem c_slices_ContainsFunc_LaneII (a b : Int) (l : List LaneM) (hl : l.length ≤ 4611686018427387904) : FnOK Try.prog 84 [.d (lanes l), .fn 135 [.dptr [dI a], .dptr [dI b]]] (rb (l.any (laneAB a b))) := by
  have c1 := c_slices_IndexFunc_LaneII 135 a b (laneAB a b) (fun x => c_impl_links_1 x a b) l hl
  refine fn_of lv84 Try.func84 rfl rfl (by kernel_rfl) rfl ?_
  refine .inl ⟨_, _, rfl, c1, rfl, ?_⟩
  exact ⟨⟨congrArg Value.bool (idxG_any l _), trivial⟩, rfl⟩
/-- a lane or a bell leads from one guest to the other -/
def linked (x : PolM) (a b : Int) : Bool := x.lns.any (laneAB a b) || x.bls.any (fun z => z == ⟨a, b⟩)
theorem c_impl_links (x : PolM) (hs : x.small) (a b : Int) : FnOK Try.prog 125 [polP x, di a, di b] (rb (linked x a b)) := by
  have h1 := hs.lns
  have h2 := hs.bls
  have c1 := c_slices_ContainsFunc_LaneII a b x.lns (by omega)
  have c2 := c_slices_Contains_Bell x.bls ⟨a, b⟩ (by omega)
  obtain ⟨v, hv⟩ : ∃ v, v = linked x a b := ⟨_, rfl⟩
  rw [← hv]
  unfold linked at hv
  generalize x.lns.any (laneAB a b) = p at *
  generalize x.bls.any (fun z => z == ⟨a, b⟩) = q at *
  cases p with
  | true =>
    have hv : v = true := hv
    subst hv
    refine fn_of lv125 Try.func125 rfl rfl (by kernel_rfl) rfl ?_
    refine .inl ⟨_, _, rfl, c1, rfl, ?_⟩
    repeat' (first | refine bsplit_true ?_ | refine bsplit_false ?_)
    refine chk_intro (by kernel_rfl) ?_
    exact ⟨⟨rfl, trivial⟩, rfl⟩
  | false =>
    have hv : v = q := hv
    subst hv
    refine fn_of lv125 Try.func125 rfl rfl (by kernel_rfl) rfl ?_
    refine .inl ⟨_, _, rfl, c1, rfl, ?_⟩
    repeat' (first | refine bsplit_true ?_ | refine bsplit_false ?_)
    refine .inl ⟨_, _, rfl, c2, rfl, ?_⟩
    repeat' (first | refine bsplit_true ?_ | refine bsplit_false ?_)
    refine chk_intro (by kernel_rfl) ?_
    exact ⟨⟨rfl, trivial⟩, rfl⟩
theorem c_impl_linksTo_1 (x : PolM) (hs : x.small) (k g : Int) : FnOK Try.prog 124 [di k, .pptr (polD x), .dptr [dI g]] (rb (linked x k g)) := by
  have c1 := c_impl_links x hs k g
  refine fn_of lv124 Try.func124 rfl rfl (by kernel_rfl) rfl ?_
  refine ask_intro trivial ?_
  refine .inl ⟨_, _, rfl, c1, rfl, ?_⟩
  exact ⟨⟨rfl, trivial⟩, rfl⟩
theorem freeR_snoc (p : Int → Bool) (n : Nat) (v : Int) : freeR p (n + 1) v = freeR p n v ++ (if p (v + n) = true then [v + n] else []) := by
  induction n generalizing v with
  | zero =>
    show (if p v = true then v :: [] else []) = [] ++ (if p (v + 0) = true then [v + 0] else [])
    rw [Int.add_zero, List.nil_append]
  | succ n ih =>
    rw [freeR, ih (v + 1)]
    conv => rhs; rw [freeR]
    have e : v + 1 + (n : Int) = v + ((n + 1 : Nat) : Int) := by omega
    rw [e]
    split <;> simp
set_option maxHeartbeats 1600000 in
theorem c_impl_guests_1 (x : PolM) (hs : x.small) (g : Int) : FnOK Try.prog 123 [polP x, .fn 124 [.pptr (polD x), .dptr [dI g]]] (.r (.one (oInts (freeR (fun k => linked x k g) x.own.length 0)))) := by
  have ho := hs.own
  refine fn_of lv123 Try.func123 rfl rfl (by kernel_rfl) rfl ?_
  refine ⟨{ p : Nat × List Int // p.1 ≤ x.own.length ∧ p.2 = freeR (fun k => linked x k g) p.1 0 }, fun i => ⟨frL [(1, .fn 124 [.pptr (polD x), .dptr [dI g]]), (5, .row 66), (12, di x.own.length), (13, di i.1.1)], hpL [(66, rowE i.1.2)], 97, 0⟩, fun i => x.own.length - i.1.1, ⟨(0, []), by omega, rfl⟩,
    le_of [(66, 4096)] rfl rfl rfl rfl (tellHp_row rfl rfl rfl (fun j hj => absurd hj (Nat.not_lt_zero _)) tellHp_nil) (tellFr_fn rfl ⟨⟨DLe.refl _, DLe.refl _, DLe.refl _, DLe.refl _, trivial⟩, ⟨DLe.refl _, trivial⟩, trivial⟩ (tellFr_row rfl rfl (tellFr_v rfl rfl (tellFr_v rfl rfl trivial)))), ?_⟩
  rintro ⟨⟨i, S⟩, hi, hS⟩
  simp only at hi hS
  by_cases h1 : i < x.own.length
  · have c1 := c_impl_linksTo_1 x hs i g
    have hsn := freeR_snoc (fun k => linked x k g) i 0
    have hfl := freeR_len (fun k => linked x k g) i 0
    have e0 : (0 : Int) + (i : Int) = (i : Int) := by omega
    rw [e0] at hsn
    have hwr := congrArg (Value.int .i64) (wrap1 h1 (by omega))
    rw [← hS] at hsn hfl
    obtain ⟨b, hb⟩ : ∃ b, b = linked x i g := ⟨_, rfl⟩
    rw [← hb] at hsn c1
    refine bsplit_of_true (decide_eq_true (show (i : Int) < (x.own.length : Int) by omega)) ?_
    refine .inl ⟨_, _, rfl, c1, rfl, ?_⟩
    cases b with
    | true =>
      repeat' (first | refine bsplit_true ?_ | refine bsplit_false ?_)
      refine ask_intro ⟨by show (S.length + 1) * 8 ≤ _; omega, by show S.length + 1 ≤ 9223372036854775807; omega, fun q hq => ?_⟩ ?_
      · obtain rfl : q = 0 := by omega
        rfl
      exact ⟨⟨(i + 1, S ++ [(i : Int)]), by show i + 1 ≤ _; omega, hsn.symm⟩, le_of [(66, 12481)] rfl rfl rfl rfl (tellHp_row rfl rfl (show S.length + 1 = (S ++ [(i : Int)]).length by simp) (fun q hq => upto_snoc S _ _ rfl q hq) tellHp_nil) (tellFr_fn rfl ⟨⟨DLe.refl _, DLe.refl _, DLe.refl _, DLe.refl _, trivial⟩, ⟨DLe.refl _, trivial⟩, trivial⟩ (tellFr_row rfl rfl (tellFr_v rfl rfl (tellFr_v rfl hwr trivial)))), by show x.own.length - (i + 1) < x.own.length - i; omega⟩
    | false =>
      repeat' (first | refine bsplit_true ?_ | refine bsplit_false ?_)
      exact ⟨⟨(i + 1, S), by show i + 1 ≤ _; omega, by rw [hsn]; simp⟩, le_of [(66, 66)] rfl rfl rfl rfl (tellHp_row rfl rfl rfl (fun q hq => rfl) tellHp_nil) (tellFr_fn rfl ⟨⟨DLe.refl _, DLe.refl _, DLe.refl _, DLe.refl _, trivial⟩, ⟨DLe.refl _, trivial⟩, trivial⟩ (tellFr_row rfl rfl (tellFr_v rfl rfl (tellFr_v rfl hwr trivial)))), by show x.own.length - (i + 1) < x.own.length - i; omega⟩
  · obtain rfl : i = x.own.length := by omega
    subst hS
    refine bsplit_of_false (decide_eq_false (show ¬ (x.own.length : Int) < (x.own.length : Int) by omega)) ?_
    exact ⟨⟨⟨rfl, rfl, rfl, fun j hj => ⟨rfl, rfl⟩⟩, trivial⟩, rfl⟩
/-- the guests who have a link to a guest -/
def linksL (x : PolM) (g : Int) : List Int := freeR (fun k => linked x k g) x.own.length 0
theorem c_impl_linksTo (x : PolM) (hs : x.small) (g : Int) : FnOK Try.prog 92 [polP x, di g] (.r (.one (oInts (linksL x g)))) := by
  have c1 := c_impl_guests_1 x hs g
  refine fn_of lv92 Try.func92 rfl rfl (by kernel_rfl) rfl ?_
  refine .inl ⟨_, _, rfl, c1, rfl, ?_⟩
  exact ⟨⟨⟨rfl, rfl, rfl, fun j hj => ⟨rfl, rfl⟩⟩, trivial⟩, rfl⟩
def linksTo (x : PolM) (g : Int) : Int × List Int := if askedG x g = 0 then (0, linksL x g) else (askedG x g, [])
theorem c_impl_LinksTo (x : PolM) (hs : x.small) (g : Int) : FnOK Try.prog 41 [polLV x, di g] (.r (irsR (linksTo x g))) := by
  have c1 := c_impl_guestFault x hs g
  have c2 := c_impl_linksTo x hs g
  obtain ⟨r, hr⟩ : ∃ r, r = linksTo x g := ⟨_, rfl⟩
  rw [← hr]
  unfold linksTo at hr
  generalize askedG x g = e at *
  refine fn_of lv41 Try.func41 rfl rfl (by kernel_rfl) rfl ?_
  refine .inl ⟨_, _, rfl, c1, rfl, ?_⟩
  refine bsplit_intro (fun h => ?_) (fun h => ?_)
  · rw [if_neg (by simpa using h)] at hr
    subst hr
    exact ⟨⟨rfl, ⟨rfl, rfl⟩, trivial⟩, rfl⟩
  rw [if_pos (by simpa using h)] at hr
  subst hr
  refine .inl ⟨_, _, rfl, c2, rfl, ?_⟩
  exact ⟨⟨rfl, ⟨rfl, rfl, rfl, fun j hj => ⟨rfl, rfl⟩⟩, trivial⟩, rfl⟩
end Go.Proofs.Ytdpahckfibnagaa.L

/- Who has a link to a guest, as the reference counts: contracts. -/
set_option linter.unusedVariables false
set_option linter.unusedSimpArgs false
set_option maxRecDepth 100000
namespace Go.Proofs.Ytdpahckfibnagaa.L
open Go.RowKit
def riseAt (l : List Int) (v : Int) : Nat := l.findIdx (fun a => !decide (a < v))
/-- a number put into rising numbers -/
def rise (l : List Int) (v : Int) : List Int := if riseAt l v < l.length ∧ l.getD (riseAt l v) 0 = v then l else l.take (riseAt l v) ++ v :: l.drop (riseAt l v)
theorem riseAt_le (l : List Int) (v : Int) : riseAt l v ≤ l.length := List.findIdx_le_length
theorem riseAt_of {l : List Int} {v : Int} {i : Nat} (hi : i ≤ l.length) (h : ∀ j, j < i → l.getD j 0 < v) (he : i < l.length → ¬ l.getD i 0 < v) : riseAt l v = i := by
  unfold riseAt
  by_cases hl : i < l.length
  · rw [List.findIdx_eq hl]
    refine ⟨by have := he hl; rw [getD_at 0 hl] at this; simpa using this, fun j hj => ?_⟩
    have := h j hj
    rw [getD_at 0 (by omega)] at this
    simpa using this
  · have e : i = l.length := by omega
    rw [e]
    rw [List.findIdx_eq_length]
    intro x hx
    obtain ⟨j, hj, rfl⟩ := List.getElem_of_mem hx
    have := h j (by omega)
    rw [getD_at 0 hj] at this
    simpa using this
theorem rise_eq {l : List Int} {v : Int} {i : Nat} (h : riseAt l v = i) : rise l v = if i < l.length ∧ l.getD i 0 = v then l else l.take i ++ v :: l.drop i := by
  unfold rise
  rw [h]
theorem rise_len (l : List Int) (v : Int) : (rise l v).length ≤ l.length + 1 := by
  unfold rise
  split
  · omega
  · have := riseAt_le l v
    simp; omega
theorem rise_f {l : List Int} {v : Int} {i : Nat} (g0 : Nat → List D) (o : Operand) (hi : i ≤ l.length) (q : Nat) : upto (0 + ((i : Int) - 0).toNat + 1) (upto (0 + ((i : Int) - 0).toNat) (upto 0 g0 (cutF none 0 (intsF l))) (fun i => ([[D.v (.int .i64 v)]] : List (List D)).getD i [])) (cutF (some o) (i : Int) (intsF l)) q = intsF (l.take i ++ v :: l.drop i) q := by
  have e0 : 0 + ((i : Int) - 0).toNat = i := by omega
  rw [e0]
  unfold upto
  by_cases h1 : q < i
  · rw [if_pos (by omega), if_pos h1, if_neg (Nat.not_lt_zero _)]
    show intsF l (q - 0) = _
    simp only [intsF, List.getD, Nat.sub_zero]
    rw [List.getElem?_append_left (by rw [List.length_take]; omega), List.getElem?_take_of_lt h1]
  · by_cases h2 : q = i
    · subst h2
      rw [if_pos (by omega), if_neg h1]
      simp only [intsF, List.getD]
      rw [List.getElem?_append_right (by rw [List.length_take]; omega)]
      simp [List.length_take, Nat.min_eq_left hi]
    · rw [if_neg (by omega)]
      show intsF l ((i : Int).toNat + (q - (i + 1))) = _
      simp only [intsF, List.getD]
      rw [List.getElem?_append_right (by rw [List.length_take]; omega), List.length_take, Nat.min_eq_left hi]
      obtain ⟨k, hk⟩ : ∃ k, q - i = k + 1 := ⟨q - i - 1, by omega⟩
      rw [hk, List.getElem?_cons_succ, List.getElem?_drop]
      have e : (i : Int).toNat + (q - (i + 1)) = i + k := by omega
      rw [e]
set_option maxHeartbeats 1600000 in
theorem c_spec_l1Rise (l : List Int) (v : Int) (hl : l.length ≤ 1048576) : FnOK Try.prog 122 [.d (ints l), di v] (.r (.one (.sh (ints (rise l v))))) := by
  obtain ⟨R, hR⟩ : ∃ R, R = rise l v := ⟨_, rfl⟩
  rw [← hR]
  refine fn_of lv122 Try.func122 rfl rfl (by kernel_rfl) rfl ?_
  refine ⟨{ i : Nat // i ≤ l.length ∧ ∀ j, j < i → l.getD j 0 < v }, fun i => ⟨frL [(0, .d (ints l)), (1, di v), (5, di i.1)], hpL [], 97, 0⟩, fun i => l.length - i.1, ⟨0, by omega, fun j hj => absurd hj (Nat.not_lt_zero _)⟩,
    le_of [] rfl rfl rfl rfl trivial (tellFr_d rfl (DLe.refl _) (tellFr_v rfl rfl (tellFr_v rfl rfl trivial))), ?_⟩
  rintro ⟨i, hi, hb⟩
  by_cases h1 : i < l.length
  · have hwr := congrArg (Value.int .i64) (wrap1 h1 (by omega))
    refine bsplit_of_true (decide_eq_true (show (i : Int) < (l.length : Int) by omega)) ?_
    repeat' (first | refine bsplit_true ?_ | refine bsplit_false ?_)
    refine ask_intro ⟨by omega, by show (i : Int) < (l.length : Int); omega, rfl⟩ ?_
    repeat' (first | refine bsplit_true ?_ | refine bsplit_false ?_)
    by_cases h2 : l.getD i 0 < v
    · refine bsplit_of_true (decide_eq_true h2) ?_
      repeat' (first | refine bsplit_true ?_ | refine bsplit_false ?_)
      exact ⟨⟨i + 1, by omega, fun j hj => if h : j = i then h ▸ h2 else hb j (by omega)⟩, le_of [] rfl rfl rfl rfl trivial (tellFr_d rfl (DLe.refl _) (tellFr_v rfl rfl (tellFr_v rfl hwr trivial))), by show l.length - (i + 1) < l.length - i; omega⟩
    · have hat := riseAt_of hi hb (fun _ => h2)
      refine bsplit_of_false (decide_eq_false h2) ?_
      repeat' (first | refine bsplit_true ?_ | refine bsplit_false ?_)
      refine bsplit_of_true (decide_eq_true (show (i : Int) < (l.length : Int) by omega)) ?_
      repeat' (first | refine bsplit_true ?_ | refine bsplit_false ?_)
      refine ask_intro ⟨by omega, by show (i : Int) < (l.length : Int); omega, rfl⟩ ?_
      repeat' (first | refine bsplit_true ?_ | refine bsplit_false ?_)
      have e3 := rise_eq hat
      by_cases h3 : l.getD i 0 = v
      · rw [if_pos ⟨h1, h3⟩] at e3
        subst hR
        refine bsplit_of_true (beq_iff_eq.2 h3) ?_
        repeat' (first | refine bsplit_true ?_ | refine bsplit_false ?_)
        exact ⟨⟨(by rw [e3]; exact DLe.refl _ : DLe (ints l) (ints (rise l v))), trivial⟩, rfl⟩
      · rw [if_neg (fun h => h3 h.2)] at e3
        subst hR
        refine bsplit_of_false (beq_eq_false_iff_ne.2 h3) ?_
        repeat' (first | refine bsplit_true ?_ | refine bsplit_false ?_)
        refine ask_intro ⟨by omega, by omega, by show (i : Int) ≤ (l.length : Int); omega, .inl rfl⟩ ?_
        refine ask_intro ⟨by show (0 + ((i : Int) - 0).toNat) * 8 ≤ 140737488355328; omega, by show 0 + ((i : Int) - 0).toNat ≤ 9223372036854775807; omega, fun q hq => rfl⟩ ?_
        refine ask_intro ⟨by show (0 + ((i : Int) - 0).toNat + 1) * 8 ≤ 140737488355328; omega, by show 0 + ((i : Int) - 0).toNat + 1 ≤ 9223372036854775807; omega, fun q hq => ?_⟩ ?_
        · obtain rfl : q = 0 := by omega
          rfl
        refine ask_intro ⟨by omega, by show (i : Int) ≤ (l.length : Int); omega, by show (l.length : Int) ≤ (l.length : Int); omega, .inr (fun j hj => rfl)⟩ ?_
        refine ask_intro ⟨by show (0 + ((i : Int) - 0).toNat + 1 + ((l.length : Int) - (i : Int)).toNat) * 8 ≤ 140737488355328; omega, by show 0 + ((i : Int) - 0).toNat + 1 + ((l.length : Int) - (i : Int)).toNat ≤ 9223372036854775807; omega, fun q hq => rfl⟩ ?_
        refine chk_intro (by kernel_rfl) ?_
        refine ⟨⟨DLe.l (show 0 + ((i : Int) - 0).toNat + 1 + ((l.length : Int) - (i : Int)).toNat = (rise l v).length by rw [e3]; simp; omega) ?_, trivial⟩, rfl⟩
        intro q hq
        refine Eq.trans ?_ (congrFun (congrArg intsF e3) q).symm
        exact rise_f _ _ hi q
  · have hat := riseAt_of hi hb (fun h => absurd h h1)
    have e3 := rise_eq hat
    rw [if_neg (fun h => h1 h.1)] at e3
    subst hR
    refine bsplit_of_false (decide_eq_false (show ¬ (i : Int) < (l.length : Int) by omega)) ?_
    repeat' (first | refine bsplit_true ?_ | refine bsplit_false ?_)
    refine bsplit_of_false (decide_eq_false (show ¬ (i : Int) < (l.length : Int) by omega)) ?_
    repeat' (first | refine bsplit_true ?_ | refine bsplit_false ?_)
    refine ask_intro ⟨by omega, by omega, by show (i : Int) ≤ (l.length : Int); omega, .inl rfl⟩ ?_
    refine ask_intro ⟨by show (0 + ((i : Int) - 0).toNat) * 8 ≤ 140737488355328; omega, by show 0 + ((i : Int) - 0).toNat ≤ 9223372036854775807; omega, fun q hq => rfl⟩ ?_
    refine ask_intro ⟨by show (0 + ((i : Int) - 0).toNat + 1) * 8 ≤ 140737488355328; omega, by show 0 + ((i : Int) - 0).toNat + 1 ≤ 9223372036854775807; omega, fun q hq => ?_⟩ ?_
    · obtain rfl : q = 0 := by omega
      rfl
    refine ask_intro ⟨by omega, by show (i : Int) ≤ (l.length : Int); omega, by show (l.length : Int) ≤ (l.length : Int); omega, .inr (fun j hj => rfl)⟩ ?_
    refine ask_intro ⟨by show (0 + ((i : Int) - 0).toNat + 1 + ((l.length : Int) - (i : Int)).toNat) * 8 ≤ 140737488355328; omega, by show 0 + ((i : Int) - 0).toNat + 1 + ((l.length : Int) - (i : Int)).toNat ≤ 9223372036854775807; omega, fun q hq => rfl⟩ ?_
    refine chk_intro (by kernel_rfl) ?_
    refine ⟨⟨DLe.l (show 0 + ((i : Int) - 0).toNat + 1 + ((l.length : Int) - (i : Int)).toNat = (rise l v).length by rw [e3]; simp; omega) ?_, trivial⟩, rfl⟩
    intro q hq
    refine Eq.trans ?_ (congrFun (congrArg intsF e3) q).symm
    exact rise_f _ _ hi q
end Go.Proofs.Ytdpahckfibnagaa.L

/- Who has a link to a guest: the reference and the program. -/
set_option linter.unusedVariables false
set_option linter.unusedSimpArgs false
set_option maxRecDepth 100000
namespace Go.Proofs.Ytdpahckfibnagaa.L
open Go.RowKit
abbrev stepL (g : Int) (S : List Int) (z : LaneM) : List Int := if z.to = g then rise S z.frm else S
abbrev stepB (g : Int) (S : List Int) (z : BellM) : List Int := if z.to = g then rise S z.frm else S
def linkS (x : PolM) (g : Int) : List Int := x.bls.foldl (stepB g) (x.lns.foldl (stepL g) [])
theorem stepL_len (g : Int) (S : List Int) (z : LaneM) : (stepL g S z).length ≤ S.length + 1 := by
  unfold stepL
  split
  · exact rise_len _ _
  · omega
theorem stepB_len (g : Int) (S : List Int) (z : BellM) : (stepB g S z).length ≤ S.length + 1 := by
  unfold stepB
  split
  · exact rise_len _ _
  · omega
set_option maxHeartbeats 1600000 in
theorem c_spec_l6Links (x : PolM) (hl : x.lns.length ≤ 4) (hb : x.bls.length ≤ 4) (g : Int) : FnOK Try.prog 91 [polP x, di g] (.r (.one (.sh (ints (linkS x g))))) := by
  obtain ⟨V, hV⟩ : ∃ V, V = x.lns.foldl (stepL g) [] := ⟨_, rfl⟩
  obtain ⟨R, hR⟩ : ∃ R, R = linkS x g := ⟨_, rfl⟩
  rw [← hR]
  unfold linkS at hR
  rw [← hV] at hR
  refine fn_of lv91 Try.func91 rfl rfl (by kernel_rfl) rfl ?_
  refine ⟨{ p : Nat × List Int // p.1 ≤ x.lns.length ∧ p.2.length ≤ p.1 ∧ (x.lns.drop p.1).foldl (stepL g) p.2 = V }, fun p => ⟨frL [(0, polP x), (1, di g), (5, .d (ints p.1.2)), (6, di p.1.1)], hpL [], 97, 0⟩, fun p => x.lns.length - p.1.1, ⟨(0, []), by omega, by simp, hV.symm⟩,
    le_of [] rfl rfl rfl rfl trivial (tellFr_x rfl ⟨DLe.refl _, DLe.refl _, DLe.refl _, DLe.refl _, trivial⟩ (tellFr_v rfl rfl (tellFr_x rfl (tellV_frz rfl rfl rfl (DLe.l rfl (fun j hj => absurd hj (by omega)))) (tellFr_v rfl rfl trivial)))), ?_⟩
  rintro ⟨⟨i, S⟩, hi, hSl, hall⟩
  simp only at hi hSl hall
  by_cases h1 : i < x.lns.length
  · rw [drop_consG ⟨0, 0, 0, 0, 0⟩ x.lns i h1, List.foldl_cons] at hall
    have hwr := congrArg (Value.int .i64) (wrap1 h1 (by omega))
    have hl2 := stepL_len g S (x.lns.getD i ⟨0, 0, 0, 0, 0⟩)
    have c1 := c_spec_l1Rise S (x.lns.getD i ⟨0, 0, 0, 0, 0⟩).frm (by omega)
    refine bsplit_of_true (decide_eq_true (show (i : Int) < (x.lns.length : Int) by omega)) ?_
    refine ask_intro ⟨by omega, by show (i : Int) < (x.lns.length : Int); omega, rfl⟩ ?_
    by_cases h2 : (x.lns.getD i ⟨0, 0, 0, 0, 0⟩).to = g
    · have e : stepL g S (x.lns.getD i ⟨0, 0, 0, 0, 0⟩) = rise S (x.lns.getD i ⟨0, 0, 0, 0, 0⟩).frm := if_pos h2
      rw [e] at hall hl2
      refine bsplit_of_true (beq_iff_eq.2 h2) ?_
      refine ask_intro ⟨by omega, by show (i : Int) < (x.lns.length : Int); omega, rfl⟩ ?_
      refine .inl ⟨_, _, rfl, c1, rfl, ?_⟩
      exact ⟨⟨(i + 1, rise S (x.lns.getD i ⟨0, 0, 0, 0, 0⟩).frm), by show i + 1 ≤ _; omega, by show (rise S _).length ≤ i + 1; omega, hall⟩, le_of [] rfl rfl rfl rfl trivial (tellFr_x rfl ⟨DLe.refl _, DLe.refl _, DLe.refl _, DLe.refl _, trivial⟩ (tellFr_v rfl rfl (tellFr_d rfl (DLe.refl _) (tellFr_v rfl hwr trivial)))), by show x.lns.length - (i + 1) < x.lns.length - i; omega⟩
    · have e : stepL g S (x.lns.getD i ⟨0, 0, 0, 0, 0⟩) = S := if_neg h2
      rw [e] at hall
      refine bsplit_of_false (beq_eq_false_iff_ne.2 h2) ?_
      exact ⟨⟨(i + 1, S), by show i + 1 ≤ _; omega, by show S.length ≤ i + 1; omega, hall⟩, le_of [] rfl rfl rfl rfl trivial (tellFr_x rfl ⟨DLe.refl _, DLe.refl _, DLe.refl _, DLe.refl _, trivial⟩ (tellFr_v rfl rfl (tellFr_d rfl (DLe.refl _) (tellFr_v rfl hwr trivial)))), by show x.lns.length - (i + 1) < x.lns.length - i; omega⟩
  rw [List.drop_eq_nil_of_le (by omega)] at hall
  have hall : S = V := hall
  subst hall
  refine bsplit_of_false (decide_eq_false (show ¬ (i : Int) < (x.lns.length : Int) by omega)) ?_
  refine ⟨{ p : Nat × List Int // p.1 ≤ x.bls.length ∧ p.2.length ≤ p.1 + 4 ∧ (x.bls.drop p.1).foldl (stepB g) p.2 = R }, fun p => ⟨frL [(0, polP x), (1, di g), (5, .d (ints p.1.2)), (7, di p.1.1)], hpL [], 97, 0⟩, fun p => x.bls.length - p.1.1, ⟨(0, S), by omega, by show S.length ≤ 0 + 4; omega, hR.symm⟩,
    le_of [] rfl rfl rfl rfl trivial (tellFr_x rfl ⟨DLe.refl _, DLe.refl _, DLe.refl _, DLe.refl _, trivial⟩ (tellFr_v rfl rfl (tellFr_d rfl (DLe.refl _) (tellFr_v rfl rfl trivial)))), ?_⟩
  rintro ⟨⟨k, T⟩, hk, hTl, hall⟩
  simp only at hk hTl hall
  by_cases h1 : k < x.bls.length
  · rw [drop_consG ⟨0, 0⟩ x.bls k h1, List.foldl_cons] at hall
    have hwr := congrArg (Value.int .i64) (wrap1 h1 (by omega))
    have hl2 := stepB_len g T (x.bls.getD k ⟨0, 0⟩)
    have c1 := c_spec_l1Rise T (x.bls.getD k ⟨0, 0⟩).frm (by omega)
    refine bsplit_of_true (decide_eq_true (show (k : Int) < (x.bls.length : Int) by omega)) ?_
    refine ask_intro ⟨by omega, by show (k : Int) < (x.bls.length : Int); omega, rfl⟩ ?_
    by_cases h2 : (x.bls.getD k ⟨0, 0⟩).to = g
    · have e : stepB g T (x.bls.getD k ⟨0, 0⟩) = rise T (x.bls.getD k ⟨0, 0⟩).frm := if_pos h2
      rw [e] at hall hl2
      refine bsplit_of_true (beq_iff_eq.2 h2) ?_
      refine ask_intro ⟨by omega, by show (k : Int) < (x.bls.length : Int); omega, rfl⟩ ?_
      refine .inl ⟨_, _, rfl, c1, rfl, ?_⟩
      exact ⟨⟨(k + 1, rise T (x.bls.getD k ⟨0, 0⟩).frm), by show k + 1 ≤ _; omega, by show (rise T _).length ≤ k + 1 + 4; omega, hall⟩, le_of [] rfl rfl rfl rfl trivial (tellFr_x rfl ⟨DLe.refl _, DLe.refl _, DLe.refl _, DLe.refl _, trivial⟩ (tellFr_v rfl rfl (tellFr_d rfl (DLe.refl _) (tellFr_v rfl hwr trivial)))), by show x.bls.length - (k + 1) < x.bls.length - k; omega⟩
    · have e : stepB g T (x.bls.getD k ⟨0, 0⟩) = T := if_neg h2
      rw [e] at hall
      refine bsplit_of_false (beq_eq_false_iff_ne.2 h2) ?_
      exact ⟨⟨(k + 1, T), by show k + 1 ≤ _; omega, by show T.length ≤ k + 1 + 4; omega, hall⟩, le_of [] rfl rfl rfl rfl trivial (tellFr_x rfl ⟨DLe.refl _, DLe.refl _, DLe.refl _, DLe.refl _, trivial⟩ (tellFr_v rfl rfl (tellFr_d rfl (DLe.refl _) (tellFr_v rfl hwr trivial)))), by show x.bls.length - (k + 1) < x.bls.length - k; omega⟩
  rw [List.drop_eq_nil_of_le (by omega)] at hall
  have hall : T = R := hall
  subst hall
  refine bsplit_of_false (decide_eq_false (show ¬ (k : Int) < (x.bls.length : Int) by omega)) ?_
  exact ⟨⟨DLe.refl _, trivial⟩, rfl⟩
end Go.Proofs.Ytdpahckfibnagaa.L

/- Who has a link to a guest: the plain law. -/
set_option linter.unusedVariables false
set_option linter.unusedSimpArgs false
set_option maxRecDepth 100000
namespace Go.Proofs.Ytdpahckfibnagaa.L
open Go.RowKit
theorem rising_ext : ∀ (l m : List Int), l.Pairwise (· < ·) → m.Pairwise (· < ·) → (∀ a, a ∈ l ↔ a ∈ m) → l = m
  | [], [], _, _, _ => rfl
  | [], b :: m, _, _, h => absurd ((h b).2 (by simp)) (by simp)
  | a :: l, [], _, _, h => absurd ((h a).1 (by simp)) (by simp)
  | a :: l, b :: m, hl, hm, h => by
    obtain ⟨l1, l2⟩ := List.pairwise_cons.1 hl
    obtain ⟨m1, m2⟩ := List.pairwise_cons.1 hm
    have e : a = b := by
      rcases List.mem_cons.1 ((h a).1 (by simp)) with e | e
      · exact e
      · rcases List.mem_cons.1 ((h b).2 (by simp)) with e2 | e2
        · exact e2.symm
        · have := m1 a e; have := l1 b e2; omega
    subst e
    rw [rising_ext l m l2 m2 fun x => ?_]
    constructor
    · intro hx
      rcases List.mem_cons.1 ((h x).1 (List.mem_cons_of_mem _ hx)) with e | e
      · have := l1 x hx; omega
      · exact e
    · intro hx
      rcases List.mem_cons.1 ((h x).2 (List.mem_cons_of_mem _ hx)) with e | e
      · have := m1 x hx; omega
      · exact e
theorem mem_rise {l : List Int} {v a : Int} : a ∈ rise l v ↔ a ∈ l ∨ a = v := by
  unfold rise
  split
  · rename_i h
    constructor
    · exact .inl
    · rintro (h2 | rfl)
      · exact h2
      · have e := h.2
        rw [getD_at 0 h.1] at e
        rw [← e]
        exact List.getElem_mem _
  · have e : l.take (riseAt l v) ++ l.drop (riseAt l v) = l := List.take_append_drop _ _
    constructor
    · intro h
      rcases List.mem_append.1 h with h | h
      · exact .inl (by rw [← e]; exact List.mem_append_left _ h)
      · rcases List.mem_cons.1 h with h | h
        · exact .inr h
        · exact .inl (by rw [← e]; exact List.mem_append_right _ h)
    · rintro (h | rfl)
      · rw [← e] at h
        rcases List.mem_append.1 h with h | h
        · exact List.mem_append_left _ h
        · exact List.mem_append_right _ (List.mem_cons_of_mem _ h)
      · exact List.mem_append_right _ (by simp)
theorem rise_rising {l : List Int} {v : Int} (h : l.Pairwise (· < ·)) : (rise l v).Pairwise (· < ·) := by
  unfold rise
  split
  · exact h
  · rename_i hn
    have e : l.take (riseAt l v) ++ l.drop (riseAt l v) = l := List.take_append_drop _ _
    have h0 := h
    rw [← e, List.pairwise_append] at h0
    obtain ⟨p1, p2, p3⟩ := h0
    have lo : ∀ a ∈ l.take (riseAt l v), a < v := by
      intro a ha
      obtain ⟨j, hj, rfl⟩ := List.getElem_of_mem ha
      rw [List.length_take] at hj
      rw [List.getElem_take]
      have := List.not_of_lt_findIdx (p := fun a => !decide (a < v)) (xs := l) (i := j) (by show j < riseAt l v; omega)
      simpa using this
    have hi : ∀ b ∈ l.drop (riseAt l v), v < b := by
      intro b hb
      by_cases hlt : riseAt l v < l.length
      · have h1 : ¬ l[riseAt l v] < v := by
          have this : (!decide (l[riseAt l v] < v)) = true := List.findIdx_getElem (p := fun a => !decide (a < v)) (xs := l) (w := hlt)
          intro hc
          rw [decide_eq_true hc] at this
          exact absurd this (by decide)
        have h2 : l[riseAt l v] ≠ v := fun e => hn ⟨hlt, by rw [getD_at 0 hlt]; exact e⟩
        rw [List.drop_eq_getElem_cons hlt] at hb p2
        rcases List.mem_cons.1 hb with e | e
        · subst e; omega
        · have := (List.pairwise_cons.1 p2).1 b e; omega
      · rw [List.drop_eq_nil_of_le (by omega)] at hb
        simp at hb
    rw [List.pairwise_append, List.pairwise_cons]
    refine ⟨p1, ⟨hi, p2⟩, fun a ha b hb => ?_⟩
    rcases List.mem_cons.1 hb with e | e
    · subst e; exact lo a ha
    · exact p3 a ha b e
theorem mem_freeR {p : Int → Bool} : ∀ {n : Nat} {v a : Int}, a ∈ freeR p n v ↔ v ≤ a ∧ a < v + n ∧ p a = true
  | 0, v, a => by
    constructor
    · intro h; simp [freeR] at h
    · intro h; omega
  | n + 1, v, a => by
    have ih := mem_freeR (p := p) (n := n) (v := v + 1) (a := a)
    unfold freeR
    split
    · rename_i h
      rw [List.mem_cons, ih]
      constructor
      · rintro (rfl | h2)
        · exact ⟨by omega, by omega, h⟩
        · exact ⟨by omega, by omega, h2.2.2⟩
      · intro h2
        by_cases e : a = v
        · exact .inl e
        · exact .inr ⟨by omega, by omega, h2.2.2⟩
    · rename_i h
      rw [ih]
      constructor
      · intro h2; exact ⟨by omega, by omega, h2.2.2⟩
      · intro h2
        have e : a ≠ v := by rintro rfl; exact h h2.2.2
        exact ⟨by omega, by omega, h2.2.2⟩
theorem freeR_rising {p : Int → Bool} : ∀ {n : Nat} {v : Int}, (freeR p n v).Pairwise (· < ·)
  | 0, v => List.Pairwise.nil
  | n + 1, v => by
    have ih := freeR_rising (p := p) (n := n) (v := v + 1)
    unfold freeR
    split
    · refine List.pairwise_cons.2 ⟨fun a ha => ?_, ih⟩
      have := (mem_freeR.1 ha).1
      omega
    · exact ih
theorem foldL_mem (g : Int) : ∀ (l : List LaneM) (S : List Int) (a : Int), a ∈ l.foldl (stepL g) S ↔ a ∈ S ∨ l.any (laneAB a g) = true
  | [], S, a => by simp
  | z :: l, S, a => by
    rw [List.foldl_cons, foldL_mem g l, List.any_cons]
    unfold stepL
    by_cases h : z.to = g
    · rw [if_pos h, mem_rise]
      simp only [laneAB, h, beq_self_eq_true, Bool.and_true, Bool.or_eq_true, beq_iff_eq]
      constructor
      · rintro ((h1 | h1) | h1)
        · exact .inl h1
        · exact .inr (.inl h1.symm)
        · exact .inr (.inr h1)
      · rintro (h1 | h1 | h1)
        · exact .inl (.inl h1)
        · exact .inl (.inr h1.symm)
        · exact .inr h1
    · rw [if_neg h]
      simp [laneAB, h]
theorem foldB_mem (g : Int) : ∀ (l : List BellM) (S : List Int) (a : Int), a ∈ l.foldl (stepB g) S ↔ a ∈ S ∨ l.any (fun z => z == ⟨a, g⟩) = true
  | [], S, a => by simp
  | z :: l, S, a => by
    rw [List.foldl_cons, foldB_mem g l, List.any_cons]
    unfold stepB
    obtain ⟨f, t⟩ := z
    by_cases h : t = g
    · rw [if_pos h, mem_rise, h]
      have e : ((⟨f, g⟩ : BellM) == ⟨a, g⟩) = (f == a) := by
        by_cases h2 : f = a
        · subst h2; simp
        · rw [beq_eq_false_iff_ne.2 h2, beq_eq_false_iff_ne]
          intro e; exact h2 (BellM.mk.inj e).1
      rw [e]
      simp only [Bool.or_eq_true, beq_iff_eq]
      constructor
      · rintro ((h1 | h1) | h1)
        · exact .inl h1
        · exact .inr (.inl h1.symm)
        · exact .inr (.inr h1)
      · rintro (h1 | h1 | h1)
        · exact .inl (.inl h1)
        · exact .inl (.inr h1.symm)
        · exact .inr h1
    · rw [if_neg h]
      have e : ((⟨f, t⟩ : BellM) == ⟨a, g⟩) = false := by
        rw [beq_eq_false_iff_ne]
        intro e; exact h (BellM.mk.inj e).2
      rw [e, Bool.false_or]
theorem foldL_rising (g : Int) : ∀ (l : List LaneM) (S : List Int), S.Pairwise (· < ·) → (l.foldl (stepL g) S).Pairwise (· < ·)
  | [], S, h => h
  | z :: l, S, h => by
    rw [List.foldl_cons]
    refine foldL_rising g l _ ?_
    unfold stepL
    split
    · exact rise_rising h
    · exact h
theorem foldB_rising (g : Int) : ∀ (l : List BellM) (S : List Int), S.Pairwise (· < ·) → (l.foldl (stepB g) S).Pairwise (· < ·)
  | [], S, h => h
  | z :: l, S, h => by
    rw [List.foldl_cons]
    refine foldB_rising g l _ ?_
    unfold stepB
    split
    · exact rise_rising h
    · exact h
theorem mem_linkS {x : PolM} {g a : Int} : a ∈ linkS x g ↔ linked x a g = true := by
  unfold linkS linked
  rw [foldB_mem, foldL_mem]
  simp
theorem links_eq {x : PolM} {g : Int} (h : ∀ a, linked x a g = true → 0 ≤ a ∧ a < (x.own.length : Int)) : linkS x g = linksL x g := by
  refine rising_ext _ _ (foldB_rising g _ _ (foldL_rising g _ _ List.Pairwise.nil)) freeR_rising fun a => ?_
  rw [mem_linkS]
  unfold linksL
  rw [mem_freeR]
  constructor
  · intro h2
    have := h a h2
    exact ⟨by omega, by omega, h2⟩
  · intro h2; exact h2.2.2
theorem lanes_ends (own : List (List Int)) : ∀ (l ah : List LaneM), lanesBad own ah l = 0 → ∀ m ∈ l, endsF own.length m.frm m.to = 0
  | [], _, _, m, hm => by simp at hm
  | z :: l, ah, h, m, hm => by
    unfold lanesBad at h
    split at h
    · rename_i h1
      rcases List.mem_cons.1 hm with rfl | hm
      · unfold laneBad at h1
        split at h1
        · assumption
        · rename_i h2; exact absurd h1 h2
      · exact lanes_ends own l _ h m hm
    · rename_i h1; exact absurd h h1
theorem bells_ends (n : Nat) : ∀ (l ah : List BellM), bellsBad n ah l = 0 → ∀ m ∈ l, endsF n m.frm m.to = 0
  | [], _, _, m, hm => by simp at hm
  | z :: l, ah, h, m, hm => by
    unfold bellsBad at h
    split at h
    · rename_i h1
      rcases List.mem_cons.1 hm with rfl | hm
      · unfold bellBad at h1
        split at h1
        · assumption
        · rename_i h2; exact absurd h1 h2
      · exact bells_ends n l _ h m hm
    · rename_i h1; exact absurd h h1
theorem bif_zer {b : Bool} {x : Int} {n : Int} (h : (bif b then n else x) = 0) (hn : n ≠ 0) : b = false ∧ x = 0 := by cases b <;> simp_all
theorem pol_links {x : PolM} (h : polFault x = 0) : x.lns.length ≤ 4 ∧ x.bls.length ≤ 4 ∧ lanesBad x.own [] x.lns = 0 ∧ bellsBad x.own.length [] x.bls = 0 := by
  unfold polFault at h
  split at h
  · obtain ⟨h1, h⟩ := bif_zer h (by decide)
    simp only [Bool.or_eq_false_iff, decide_eq_false_iff_not] at h1
    split at h
    · rename_i h2
      split at h
      · rename_i h3; exact ⟨by omega, by omega, h2, h3⟩
      · rename_i h3; exact absurd h h3
    · rename_i h2; exact absurd h h2
  · rename_i h1; exact absurd h h1
theorem ends_frm {n : Nat} {a b : Int} (h : endsF n a b = 0) : 0 ≤ a ∧ a < (n : Int) := by
  unfold endsF at h
  obtain ⟨h1, _⟩ := bif_zer h (by decide)
  simp only [Bool.or_eq_false_iff, Bool.not_eq_eq_eq_not, Bool.not_false] at h1
  have := inR_iff.1 (show inR a 0 _ = true from h1.1)
  omega
theorem linked_guest {x : PolM} (h : polFault x = 0) (g : Int) (a : Int) (hl : linked x a g = true) : 0 ≤ a ∧ a < (x.own.length : Int) := by
  obtain ⟨_, _, h1, h2⟩ := pol_links h
  unfold linked at hl
  rcases Bool.or_eq_true_iff.1 hl with hl | hl
  · obtain ⟨z, hz, hz2⟩ := List.any_eq_true.1 hl
    have e := lanes_ends x.own x.lns [] h1 z hz
    simp only [laneAB, Bool.and_eq_true, beq_iff_eq] at hz2
    rw [hz2.1] at e
    exact ends_frm e
  · obtain ⟨z, hz, hz2⟩ := List.any_eq_true.1 hl
    have e := bells_ends x.own.length x.bls [] h2 z hz
    obtain rfl : z = ⟨a, g⟩ := beq_iff_eq.1 hz2
    exact ends_frm e
theorem asked_pol {x : PolM} {g : Int} (h : askedG x g = 0) : polFault x = 0 := by
  unfold askedG at h
  split at h
  · assumption
  · rename_i e; exact absurd h e
abbrev irsSh (p : Int × List Int) : RV1 := .agg [.v (.int .i64 p.1), .sh (ints p.2)]
theorem c_spec_LinksTo (x : PolM) (hs : x.small) (g : Int) : FnOK Try.prog 40 [polLV x, di g] (.r (irsSh (linksTo x g))) := by
  have c1 := c_spec_l6Asked x hs g
  obtain ⟨r, hr⟩ : ∃ r, r = linksTo x g := ⟨_, rfl⟩
  rw [← hr]
  unfold linksTo at hr
  by_cases h : askedG x g = 0
  · have hp := asked_pol h
    obtain ⟨q1, q2, _, _⟩ := pol_links hp
    have c2 := c_spec_l6Links x q1 q2 g
    rw [links_eq (linked_guest hp g)] at c2
    rw [if_pos h] at hr
    rw [h] at c1
    subst hr
    refine fn_of lv40 Try.func40 rfl rfl (by kernel_rfl) rfl ?_
    refine .inl ⟨_, _, rfl, c1, rfl, ?_⟩
    repeat' (first | refine bsplit_true ?_ | refine bsplit_false ?_)
    refine .inl ⟨_, _, rfl, c2, rfl, ?_⟩
    exact ⟨⟨rfl, DLe.refl _, trivial⟩, rfl⟩
  · rw [if_neg h] at hr
    subst hr
    generalize askedG x g = e at *
    refine fn_of lv40 Try.func40 rfl rfl (by kernel_rfl) rfl ?_
    refine .inl ⟨_, _, rfl, c1, rfl, ?_⟩
    refine bsplit_of_true (by simpa using h) ?_
    exact ⟨⟨rfl, DLe.nil _, trivial⟩, rfl⟩
theorem linksTo_few (x : PolM) (g : Int) : (linksTo x g).2.length ≤ 1048576 := by
  unfold linksTo
  split
  · rename_i h
    have hp := asked_pol h
    have := freeR_len (fun k => linked x k g) x.own.length 0
    have hf : x.own.length ≤ 3 := by
      unfold polFault at hp
      split at hp
      · rename_i ho
        unfold ownBad at ho
        cases hq : inR (x.own.length : Int) 1 3 with
        | false => rw [hq] at ho; simp at ho
        | true => have := inR_iff.1 hq; omega
      · rename_i ho; exact absurd hp ho
    show (freeR _ _ _).length ≤ _
    omega
  · simp
end Go.Proofs.Ytdpahckfibnagaa.L

/- Sorting few whole numbers in their place: contracts. -/
set_option linter.unusedVariables false
set_option linter.unusedSimpArgs false
set_option maxRecDepth 100000
namespace Go.Proofs.Ytdpahckfibnagaa.L
open Go.RowKit
theorem sorted_uniq : ∀ {l m : List Int}, l.Perm m → l.Pairwise (· ≤ ·) → m.Pairwise (· ≤ ·) → l = m
  | [], m, h, _, _ => h.nil_eq
  | a :: l, [], h, _, _ => absurd h.length_eq (by simp)
  | a :: l, b :: m, h, h1, h2 => by
    obtain ⟨l1, l2⟩ := List.pairwise_cons.1 h1
    obtain ⟨m1, m2⟩ := List.pairwise_cons.1 h2
    have e : a = b := by
      rcases List.mem_cons.1 (h.mem_iff.1 (List.mem_cons_self : a ∈ a :: l)) with e | e
      · exact e
      · rcases List.mem_cons.1 (h.mem_iff.2 (List.mem_cons_self : b ∈ b :: m)) with e2 | e2
        · exact e2.symm
        · have := m1 a e; have := l1 b e2; omega
    subst e
    rw [sorted_uniq h.cons_inv l2 m2]
/-- sorted up to i but for the place j, which rises down -/
def DownI (T : List Int) (i j : Nat) : Prop := ∀ p q, p < q → q ≤ i → q ≠ j → T.getD p 0 ≤ T.getD q 0
def UpI (T : List Int) (i : Nat) : Prop := ∀ p q, p < q → q < i → T.getD p 0 ≤ T.getD q 0
def swapL (T : List Int) (j : Nat) : List Int := (T.set j (T.getD (j - 1) 0)).set (j - 1) (T.getD j 0)
theorem swapL_len (T : List Int) (j : Nat) : (swapL T j).length = T.length := by simp [swapL]
theorem swapL_get (T : List Int) (j : Nat) (h0 : 0 < j) (hj : j < T.length) (q : Nat) : (swapL T j).getD q 0 = if q = j then T.getD (j - 1) 0 else if q = j - 1 then T.getD j 0 else T.getD q 0 := by
  unfold swapL
  by_cases e1 : q = j
  · subst e1
    rw [if_pos rfl]
    simp only [List.getD]
    rw [List.getElem?_set_ne (by omega), List.getElem?_set_self hj]
    rfl
  · rw [if_neg e1]
    by_cases e2 : q = j - 1
    · subst e2
      rw [if_pos rfl]
      simp only [List.getD]
      rw [List.getElem?_set_self (by rw [List.length_set]; omega)]
      rfl
    · rw [if_neg e2]
      simp only [List.getD]
      rw [List.getElem?_set_ne (by omega), List.getElem?_set_ne (by omega)]
theorem swapL_perm (T : List Int) (j : Nat) (h0 : 0 < j) (hj : j < T.length) : (swapL T j).Perm T := by
  unfold swapL
  rw [getD_at 0 hj, getD_at 0 (by omega : j - 1 < T.length)]
  exact List.set_set_perm hj (by omega)
theorem DownI.step {T : List Int} {i j : Nat} (h : DownI T i j) (h0 : 0 < j) (hji : j ≤ i) (hi : i < T.length) (hlt : T.getD j 0 < T.getD (j - 1) 0) : DownI (swapL T j) i (j - 1) := by
  intro p q hpq hq hqj
  rw [swapL_get T j h0 (by omega) p, swapL_get T j h0 (by omega) q]
  by_cases e1 : q = j
  · rw [if_pos e1, if_neg (by omega : ¬ p = j)]
    by_cases e2 : p = j - 1
    · rw [if_pos e2]; omega
    · rw [if_neg e2]; exact h p (j - 1) (by omega) (by omega) (by omega)
  · rw [if_neg e1, if_neg hqj]
    by_cases e2 : p = j
    · rw [if_pos e2]; exact h (j - 1) q (by omega) hq e1
    · rw [if_neg e2]
      by_cases e3 : p = j - 1
      · rw [if_pos e3]; exact h j q (by omega) hq e1
      · rw [if_neg e3]; exact h p q hpq hq e1
theorem DownI.done {T : List Int} {i j : Nat} (h : DownI T i j) (hji : j ≤ i) (hx : 0 < j → ¬ T.getD j 0 < T.getD (j - 1) 0) : UpI T (i + 1) := by
  intro p q hpq hq
  by_cases e : q = j
  · subst e
    have h1 := hx (by omega)
    by_cases e2 : p = q - 1
    · subst e2; omega
    · have := h p (q - 1) (by omega) (by omega) (by omega); omega
  · exact h p q hpq (by omega) e
theorem UpI.down {T : List Int} {i : Nat} (h : UpI T i) : DownI T i i := fun p q hpq hq hne => h p q hpq (by omega)
theorem UpI.sorted {T : List Int} (h : UpI T T.length) : T.Pairwise (· ≤ ·) := by
  rw [List.pairwise_iff_getElem]
  intro i j hi hj hij
  have := h i j hij hj
  rw [getD_at 0 hi, getD_at 0 hj] at this
  exact this
theorem c_cmp_isNaN_int64 (a : Int) : FnOK Try.prog 158 [di a] (rb false) := by
  refine fn_of lv158 Try.func158 rfl rfl (by kernel_rfl) rfl ?_
  exact ⟨⟨congrArg Value.bool (by simp), trivial⟩, rfl⟩
theorem c_cmp_Less_int64 (a b : Int) : FnOK Try.prog 145 [di a, di b] (rb (decide (a < b))) := by
  have c1 := c_cmp_isNaN_int64 a
  obtain ⟨v, hv⟩ : ∃ v, v = decide (a < b) := ⟨_, rfl⟩
  rw [← hv]
  refine fn_of lv145 Try.func145 rfl rfl (by kernel_rfl) rfl ?_
  refine .inl ⟨_, _, rfl, c1, rfl, ?_⟩
  repeat' (first | refine bsplit_true ?_ | refine bsplit_false ?_ | refine chk_intro (by kernel_rfl) ?_)
  exact ⟨⟨congrArg Value.bool hv.symm, trivial⟩, rfl⟩
theorem swap_hit {U : List Int} {j : Nat} (h0 : 0 < j) (hj : j < U.length) (k : Nat) (hk : k = j - 1) (q : Nat) :
    (if q = k then splice (if q = j then splice (intsF U q) 0 [D.v (.int .i64 (U.getD k 0))] else intsF U q) 0 [D.v (.int .i64 (U.getD j 0))] else if q = j then splice (intsF U q) 0 [D.v (.int .i64 (U.getD k 0))] else intsF U q) = intsF (swapL U j) q := by
  subst hk
  show _ = [D.v (.int .i64 ((swapL U j).getD q 0))]
  rw [swapL_get U j h0 hj q]
  by_cases e1 : q = j
  · rw [if_neg (by omega), if_pos e1, if_pos e1]
    rfl
  · rw [if_neg e1, if_neg e1]
    by_cases e2 : q = j - 1
    · rw [if_pos e2, if_pos e2]; rfl
    · rw [if_neg e2, if_neg e2]
set_option maxHeartbeats 1600000 in
theorem c_slices_insertionSort (S R : List Int) (hp : S.Perm R) (hR : R.Pairwise (· ≤ ·)) (hl : S.length ≤ 4096) : MutOK Try.prog 139 [.row 0, di 0, di S.length] 1 [(0, rowE S)] (.tup []) 1 [(0, rowE R)] := by
  have hlen := hp.length_eq
  refine mut_fn_of lv139 Try.func139 rfl rfl (by kernel_rfl) rfl [] ?_
  refine ⟨{ x : Nat × List Int // 1 ≤ x.1 ∧ (x.1 ≤ S.length ∨ x.1 = 1) ∧ x.2.Perm S ∧ UpI x.2 x.1 }, fun x => ⟨frL [(0, .row 0), (1, di 0), (2, di S.length), (6, di x.1.1)], hpL [(0, .row 2 1 S.length (intsF x.1.2))], 1, 1⟩, fun x => S.length - x.1.1, ⟨(1, S), by omega, .inr rfl, List.Perm.refl _, fun p q h1 h2 => by omega⟩,
    le_of [] rfl rfl rfl rfl (tellHp_row rfl rfl rfl (fun i hi => rfl) tellHp_nil) (tellFr_row rfl rfl (tellFr_v rfl rfl (tellFr_v rfl rfl (tellFr_v rfl rfl trivial)))), ?_⟩
  rintro ⟨⟨i, T⟩, hi1, hi, hT, hU⟩
  simp only at hi1 hi hT hU
  have hTl := hT.length_eq
  by_cases h1 : i < S.length
  · have hwi := congrArg (Value.int .i64) (wrap1 h1 (by omega))
    refine bsplit_of_true (decide_eq_true (show (i : Int) < (S.length : Int) by omega)) ?_
    refine ⟨{ x : Nat × List Int // x.1 ≤ i ∧ x.2.Perm S ∧ DownI x.2 i x.1 }, fun x => ⟨frL [(0, .row 0), (1, di 0), (2, di S.length), (6, di i), (7, di x.1.1)], hpL [(0, .row 2 1 S.length (intsF x.1.2))], 1, 1⟩, fun x => x.1.1, ⟨(i, T), by omega, hT, hU.down⟩,
      le_of [] rfl rfl rfl rfl (tellHp_row rfl rfl rfl (fun i hi => rfl) tellHp_nil) (tellFr_row rfl rfl (tellFr_v rfl rfl (tellFr_v rfl rfl (tellFr_v rfl rfl (tellFr_v rfl rfl trivial))))), ?_⟩
    rintro ⟨⟨j, U⟩, hj, hUp, hD⟩
    simp only at hj hUp hD
    have hUl := hUp.length_eq
    by_cases h2 : 0 < j
    · have ew : IntKind.i64.wrap ((j : Int) - 1) = ((j - 1 : Nat) : Int) := by rw [wrap_i64 _ (by omega) (by omega)]; omega
      have e2 : (IntKind.i64.wrap ((j : Int) - 1)).toNat = j - 1 := by rw [ew]; rfl
      have c1 := c_cmp_Less_int64 (U.getD j 0) (U.getD (IntKind.i64.wrap ((j : Int) - 1)).toNat 0)
      by_cases h3 : U.getD j 0 < U.getD (j - 1) 0
      · refine bsplit_of_true (decide_eq_true (show (j : Int) > 0 by omega)) ?_
        repeat' (first | refine bsplit_true ?_ | refine bsplit_false ?_)
        refine ask_intro ⟨by omega, by show (j : Int) < (S.length : Int); omega⟩ ?_
        repeat' (first | refine bsplit_true ?_ | refine bsplit_false ?_)
        refine ask_intro (by show j < S.length; omega) ?_
        repeat' (first | refine bsplit_true ?_ | refine bsplit_false ?_)
        refine ask_intro ⟨by rw [ew]; omega, by show IntKind.i64.wrap ((j : Int) - 1) < (S.length : Int); rw [ew]; omega⟩ ?_
        repeat' (first | refine bsplit_true ?_ | refine bsplit_false ?_)
        refine ask_intro (by show (IntKind.i64.wrap ((j : Int) - 1)).toNat < S.length; omega) ?_
        repeat' (first | refine bsplit_true ?_ | refine bsplit_false ?_)
        refine .inl ⟨_, _, rfl, c1, rfl, ?_⟩
        repeat' (first | refine bsplit_true ?_ | refine bsplit_false ?_)
        refine chk_intro (by kernel_rfl) ?_
        refine bsplit_of_true (decide_eq_true (by rw [e2]; exact h3)) ?_
        refine ask_intro ⟨by rw [ew]; omega, by show IntKind.i64.wrap ((j : Int) - 1) < (S.length : Int); rw [ew]; omega⟩ ?_
        refine ask_intro (by show (IntKind.i64.wrap ((j : Int) - 1)).toNat < S.length; omega) ?_
        refine ask_intro ⟨by omega, by show (j : Int) < (S.length : Int); omega⟩ ?_
        refine ask_intro (by show j < S.length; omega) ?_
        refine ask_intro ⟨by omega, by show (j : Int) < (S.length : Int); omega⟩ ?_
        refine ask_intro (by show j < S.length; omega) ?_
        refine ask_intro ⟨by rw [ew]; omega, by show IntKind.i64.wrap ((j : Int) - 1) < (S.length : Int); rw [ew]; omega⟩ ?_
        refine ask_intro (by show (IntKind.i64.wrap ((j : Int) - 1)).toNat < S.length; omega) ?_
        refine chk_intro (by kernel_rfl) ?_
        exact ⟨⟨(j - 1, swapL U j), by show j - 1 ≤ i; omega, (swapL_perm U j h2 (by omega)).trans hUp, hD.step h2 hj (by omega) h3⟩, le_of [] rfl rfl rfl rfl (tellHp_row rfl rfl rfl (fun q hq => swap_hit h2 (show j < U.length by omega) _ e2 q) tellHp_nil) (tellFr_row rfl rfl (tellFr_v rfl rfl (tellFr_v rfl rfl (tellFr_v rfl rfl (tellFr_v rfl (congrArg (Value.int .i64) ew) trivial))))), by show j - 1 < j; omega⟩
      · refine bsplit_of_true (decide_eq_true (show (j : Int) > 0 by omega)) ?_
        repeat' (first | refine bsplit_true ?_ | refine bsplit_false ?_)
        refine ask_intro ⟨by omega, by show (j : Int) < (S.length : Int); omega⟩ ?_
        repeat' (first | refine bsplit_true ?_ | refine bsplit_false ?_)
        refine ask_intro (by show j < S.length; omega) ?_
        repeat' (first | refine bsplit_true ?_ | refine bsplit_false ?_)
        refine ask_intro ⟨by rw [ew]; omega, by show IntKind.i64.wrap ((j : Int) - 1) < (S.length : Int); rw [ew]; omega⟩ ?_
        repeat' (first | refine bsplit_true ?_ | refine bsplit_false ?_)
        refine ask_intro (by show (IntKind.i64.wrap ((j : Int) - 1)).toNat < S.length; omega) ?_
        repeat' (first | refine bsplit_true ?_ | refine bsplit_false ?_)
        refine .inl ⟨_, _, rfl, c1, rfl, ?_⟩
        repeat' (first | refine bsplit_true ?_ | refine bsplit_false ?_)
        refine chk_intro (by kernel_rfl) ?_
        refine bsplit_of_false (decide_eq_false (by rw [e2]; exact h3)) ?_
        exact ⟨⟨(i + 1, U), by show 1 ≤ i + 1; omega, .inl (by show i + 1 ≤ S.length; omega), hUp, hD.done hj (fun _ => h3)⟩, le_of [] rfl rfl rfl rfl (tellHp_row rfl rfl rfl (fun q hq => rfl) tellHp_nil) (tellFr_row rfl rfl (tellFr_v rfl rfl (tellFr_v rfl rfl (tellFr_v rfl hwi trivial)))), by show S.length - (i + 1) < S.length - i; omega⟩
    · refine bsplit_of_false (decide_eq_false (show ¬ (j : Int) > 0 by omega)) ?_
      repeat' (first | refine bsplit_true ?_ | refine bsplit_false ?_)
      refine chk_intro (by kernel_rfl) ?_
      refine bsplit_false ?_
      exact ⟨⟨(i + 1, U), by show 1 ≤ i + 1; omega, .inl (by show i + 1 ≤ S.length; omega), hUp, hD.done hj (fun h => absurd h h2)⟩, le_of [] rfl rfl rfl rfl (tellHp_row rfl rfl rfl (fun q hq => rfl) tellHp_nil) (tellFr_row rfl rfl (tellFr_v rfl rfl (tellFr_v rfl rfl (tellFr_v rfl hwi trivial)))), by show S.length - (i + 1) < S.length - i; omega⟩
  · have hs : T = R := sorted_uniq (hT.trans hp) (UpI.sorted fun p q hpq hq => hU p q hpq (by omega)) hR
    subst hs
    refine bsplit_of_false (decide_eq_false (show ¬ (i : Int) < (S.length : Int) by omega)) ?_
    refine chk_intro (by kernel_rfl) ⟨trivial, tellHp_row rfl rfl hlen (fun j hj => rfl) tellHp_nil⟩
theorem wrap_u8s (n : Int) (h1 : 0 ≤ n) (h2 : n < 256) : IntKind.u8.wrap n = n := by rw [IntKind.wrap_u8]; omega
theorem c_bits_Len64 (n : Int) (h1 : 0 ≤ n) (h2 : n ≤ 200) : FnS Try.prog 149 [.d (.v (.int .u64 n))] (fun r => ∃ k, r = ri k) := by
  have e := wrap_u8s n h1 (by omega)
  refine fnS_fn_of lv149 Try.func149 rfl rfl (by kernel_rfl) rfl ?_
  refine bsplit_of_false (decide_eq_false (by omega)) ?_
  refine bsplit_of_false (decide_eq_false (by omega)) ?_
  refine bsplit_of_false (decide_eq_false (by omega)) ?_
  refine ask_intro ⟨by rw [e]; exact h1, by rw [e]; exact Int.lt_of_le_of_lt h2 (of_decide_eq_true (by kernel_rfl))⟩ ?_
  exact ⟨_, ⟨_, rfl⟩, ⟨rfl, trivial⟩, rfl⟩
theorem c_bits_Len (n : Int) (h1 : 0 ≤ n) (h2 : n ≤ 200) : FnS Try.prog 137 [.d (.v (.int .u64 n))] (fun r => ∃ k, r = ri k) := by
  have c1 := c_bits_Len64 n h1 h2
  refine fnS_fn_of lv137 Try.func137 rfl rfl (by kernel_rfl) rfl ?_
  repeat' (first | refine bsplit_true ?_ | refine bsplit_false ?_)
  refine .inr ⟨rfl, use_fn ⟨_, _, rfl, c1, ?_⟩⟩
  rintro _ ⟨k, rfl⟩
  refine ⟨rfl, ?_⟩
  exact ⟨_, ⟨_, rfl⟩, ⟨rfl, trivial⟩, rfl⟩
theorem c_slices_pdqsort (S R : List Int) (k : Int) (hp : S.Perm R) (hR : R.Pairwise (· ≤ ·)) (hl : S.length ≤ 12) : MutOK Try.prog 136 [.row 0, di 0, di S.length, di k] 1 [(0, rowE S)] (.tup []) 1 [(0, rowE R)] := by
  have hlen := hp.length_eq
  have c1 := c_slices_insertionSort S R hp hR (by omega)
  have ew : IntKind.i64.wrap ((S.length : Int) - 0) = (S.length : Int) := by rw [wrap_i64 _ (by omega) (by omega)]; omega
  refine mut_fn_of lv136 Try.func136 rfl rfl (by kernel_rfl) rfl [] ?_
  refine ⟨Unit, fun _ => ⟨frL [(0, .row 0), (1, di 0), (2, di S.length), (3, di k), (8, .d (.v (.bool true))), (9, .d (.v (.bool true)))], hpL [(0, rowE S)], 1, 1⟩, fun _ => 0, (),
    le_of [] rfl rfl rfl rfl (tellHp_row rfl rfl rfl (fun i hi => rfl) tellHp_nil) (tellFr_row rfl rfl (tellFr_v rfl rfl (tellFr_v rfl rfl (tellFr_v rfl rfl (tellFr_v rfl rfl (tellFr_v rfl rfl trivial)))))), ?_⟩
  rintro ⟨⟩
  refine bsplit_of_true (decide_eq_true (by show IntKind.i64.wrap ((S.length : Int) - 0) ≤ 12; rw [ew]; omega)) ?_
  refine .inr ⟨rfl, use_mut ⟨_, _, _, _, _, _, rfl, rfl, c1, rfl, ?_⟩⟩
  exact chk_intro (by kernel_rfl) ⟨trivial, tellHp_row rfl rfl rfl (fun j hj => rfl) tellHp_nil⟩
theorem c_slices_Sort_int64 (S R : List Int) (hp : S.Perm R) (hR : R.Pairwise (· ≤ ·)) (hl : S.length ≤ 12) : MutOK Try.prog 126 [.row 0] 1 [(0, rowE S)] (.tup []) 1 [(0, rowE R)] := by
  have ew : IntKind.u64.wrap (S.length : Int) = (S.length : Int) := by rw [IntKind.wrap_u64]; omega
  have c1 := c_bits_Len (S.length : Int) (by omega) (by omega)
  rw [← ew] at c1
  have c2 := fun k => c_slices_pdqsort S R k hp hR hl
  refine mut_fn_of lv126 Try.func126 rfl rfl (by kernel_rfl) rfl [] ?_
  refine .inr ⟨rfl, use_fn ⟨_, _, rfl, c1, ?_⟩⟩
  rintro _ ⟨k, rfl⟩
  refine ⟨rfl, ?_⟩
  refine .inr ⟨rfl, use_mut ⟨_, _, _, _, _, _, rfl, rfl, c2 k, rfl, ?_⟩⟩
  exact chk_intro (by kernel_rfl) ⟨trivial, tellHp_row rfl rfl rfl (fun j hj => rfl) tellHp_nil⟩
end Go.Proofs.Ytdpahckfibnagaa.L

/- Who reaches a guest: the program. -/
set_option linter.unusedVariables false
set_option linter.unusedSimpArgs false
set_option maxRecDepth 100000
namespace Go.Proofs.Ytdpahckfibnagaa.L
open Go.RowKit
/-- R are the numbers from which links lead to g -/
structure ReachI (x : PolM) (g : Int) (R : List Int) : Prop where
  base : ∀ a ∈ linksL x g, a ∈ R
  step : ∀ a ∈ R, ∀ b ∈ linksL x a, b ∈ R
  least : ∀ C : List Int, (∀ a ∈ linksL x g, a ∈ C) → (∀ a ∈ C, ∀ b ∈ linksL x a, b ∈ C) → ∀ a ∈ R, a ∈ C
  rise : R.Pairwise (· < ·)
  few : R.length ≤ 12
theorem nodup_len {S R : List Int} (h : S.Nodup) (hs : ∀ a ∈ S, a ∈ R) : S.length ≤ R.length := by
  induction S generalizing R with
  | nil => simp
  | cons a S ih =>
    obtain ⟨h1, h2⟩ := List.nodup_cons.1 h
    have ha := hs a (by simp)
    have := ih (R := R.erase a) h2 (fun b hb => by
      have hb2 := hs b (List.mem_cons_of_mem _ hb)
      have hne : b ≠ a := by rintro rfl; exact h1 hb
      exact (List.mem_erase_of_ne hne).2 hb2)
    have := List.length_erase_of_mem ha
    have : 0 < R.length := List.length_pos_of_mem ha
    simp only [List.length_cons]
    omega
theorem rising_nodup {R : List Int} (h : R.Pairwise (· < ·)) : R.Nodup := List.Pairwise.imp (fun {a b} hab => by omega) h
theorem rising_sorted {R : List Int} (h : R.Pairwise (· < ·)) : R.Pairwise (· ≤ ·) := List.Pairwise.imp (fun {a b} hab => by omega) h
theorem hasI_mem {l : List Int} {v : Int} : hasI l v = true ↔ v ∈ l := by
  unfold hasI
  simp
theorem nodup_snoc {S : List Int} {v : Int} (h : S.Nodup) (hv : v ∉ S) : (S ++ [v]).Nodup := by
  rw [List.nodup_append]
  exact ⟨h, by simp, fun a ha b hb => by simp at hb; subst hb; rintro rfl; exact hv ha⟩
set_option maxHeartbeats 3200000 in
theorem c_impl_reachTo (x : PolM) (hs : x.small) (g : Int) (R : List Int) (hR : ReachI x g R) : FnOK Try.prog 94 [polP x, di g] (.r (.one (oInts R))) := by
  have c0 := c_impl_linksTo x hs g
  have hfew := hR.few
  have hnd : (linksL x g).Nodup := rising_nodup freeR_rising
  refine fn_of lv94 Try.func94 rfl rfl (by kernel_rfl) rfl ?_
  refine .inl ⟨_, _, rfl, c0, rfl, ?_⟩
  refine ⟨{ p : Nat × List Int // p.1 ≤ p.2.length ∧ p.2.Nodup ∧ (∀ a ∈ p.2, a ∈ R) ∧ (∀ a ∈ linksL x g, a ∈ p.2) ∧ ∀ j, j < p.1 → ∀ b ∈ linksL x (p.2.getD j 0), b ∈ p.2 }, fun p => ⟨frL [(0, polP x), (5, .row 66), (6, di p.1.1)], hpL [(66, rowE p.1.2)], 97, 0⟩, fun p => R.length - p.1.1,
    ⟨(0, linksL x g), by omega, hnd, hR.base, fun a h => h, fun j hj => absurd hj (Nat.not_lt_zero _)⟩,
    le_of [(66, 4160)] rfl rfl rfl rfl (tellHp_row rfl rfl rfl (fun j hj => rfl) tellHp_nil) (tellFr_x rfl ⟨DLe.refl _, DLe.refl _, DLe.refl _, DLe.refl _, trivial⟩ (tellFr_row rfl rfl (tellFr_v rfl rfl trivial))), ?_⟩
  rintro ⟨⟨i, S⟩, hi, hnS, hSR, hbS, hcS⟩
  simp only at hi hnS hSR hbS hcS
  have hlS := nodup_len hnS hSR
  by_cases h1 : i < S.length
  · have c1 := c_impl_linksTo x hs (S.getD i 0)
    have hwi := congrArg (Value.int .i64) (wrap1 h1 (by omega))
    have hSi : S.getD i 0 ∈ S := by rw [getD_at 0 h1]; exact List.getElem_mem _
    have hlk := hR.step _ (hSR _ hSi)
    obtain ⟨lk, hlkd⟩ : ∃ lk, lk = linksL x (S.getD i 0) := ⟨_, rfl⟩
    have hlkn : lk.length ≤ R.length := by rw [hlkd]; exact nodup_len (rising_nodup freeR_rising) hlk
    rw [← hlkd] at c1 hlk
    refine bsplit_of_true (decide_eq_true (show (i : Int) < (S.length : Int) by omega)) ?_
    refine ask_intro ⟨by omega, by show (i : Int) < (S.length : Int); omega⟩ ?_
    refine ask_intro (by show i < S.length; exact h1) ?_
    refine .inl ⟨_, _, rfl, c1, rfl, ?_⟩
    refine ⟨{ p : Nat × List Int // p.1 ≤ lk.length ∧ p.2.Nodup ∧ (∀ a ∈ p.2, a ∈ R) ∧ (∀ a ∈ S, a ∈ p.2) ∧ (∀ j, j < S.length → p.2.getD j 0 = S.getD j 0) ∧ ∀ j, j < p.1 → lk.getD j 0 ∈ p.2 }, fun p => ⟨frL [(0, polP x), (5, .row 66), (6, di i), (23, .d (ints lk)), (24, di lk.length), (25, di p.1.1)], hpL [(66, rowE p.1.2)], 97, 0⟩, fun p => lk.length - p.1.1,
      ⟨(0, S), by omega, hnS, hSR, fun a h => h, fun j hj => rfl, fun j hj => absurd hj (Nat.not_lt_zero _)⟩,
      le_of [(66, 66)] rfl rfl rfl rfl (tellHp_row rfl rfl rfl (fun j hj => rfl) tellHp_nil) (tellFr_x rfl ⟨DLe.refl _, DLe.refl _, DLe.refl _, DLe.refl _, trivial⟩ (tellFr_row rfl rfl (tellFr_v rfl rfl (tellFr_x rfl (tellV_frz rfl rfl rfl (DLe.refl _)) (tellFr_v rfl rfl (tellFr_v rfl rfl trivial)))))), ?_⟩
    rintro ⟨⟨k, U⟩, hk, hnU, hUR, hSU, hpre, hin⟩
    simp only at hk hnU hUR hSU hpre hin
    have hlU := nodup_len hnU hUR
    have hlSU := nodup_len hnS hSU
    by_cases h2 : k < lk.length
    · have hwk := congrArg (Value.int .i64) (wrap1 h2 (by omega))
      have hm : lk.getD k 0 ∈ lk := by rw [getD_at 0 h2]; exact List.getElem_mem _
      have c2 := c_slices_Contains_int64 U (lk.getD k 0) (by omega)
      refine bsplit_of_true (decide_eq_true (show (k : Int) < (lk.length : Int) by omega)) ?_
      refine ask_intro ⟨by omega, by show (k : Int) < (lk.length : Int); omega, rfl⟩ ?_
      refine .inl ⟨_, _, rfl, c2, rfl, ?_⟩
      by_cases h3 : lk.getD k 0 ∈ U
      · refine bsplit_of_false (by rw [hasI_mem.2 h3]; rfl) ?_
        exact ⟨⟨(k + 1, U), by show k + 1 ≤ _; omega, hnU, hUR, hSU, hpre, fun j hj => if h : j = k then h ▸ h3 else hin j (by have : j < k + 1 := hj; omega)⟩, le_of [(66, 66)] rfl rfl rfl rfl (tellHp_row rfl rfl rfl (fun j hj => rfl) tellHp_nil) (tellFr_x rfl ⟨DLe.refl _, DLe.refl _, DLe.refl _, DLe.refl _, trivial⟩ (tellFr_row rfl rfl (tellFr_v rfl rfl (tellFr_d rfl (DLe.refl _) (tellFr_v rfl rfl (tellFr_v rfl hwk trivial)))))), by show lk.length - (k + 1) < lk.length - k; omega⟩
      · have hf : hasI U (lk.getD k 0) = false := by
          cases e : hasI U (lk.getD k 0) with
          | false => rfl
          | true => exact absurd (hasI_mem.1 e) h3
        have hn2 := nodup_snoc hnU h3
        refine bsplit_of_true (by rw [hf]; rfl) ?_
        refine ask_intro ⟨by show (U.length + 1) * 8 ≤ _; omega, by show U.length + 1 ≤ 9223372036854775807; omega, fun q hq => ?_⟩ ?_
        · obtain rfl : q = 0 := by omega
          rfl
        exact ⟨⟨(k + 1, U ++ [lk.getD k 0]), by show k + 1 ≤ _; omega, hn2, fun a ha => (List.mem_append.1 ha).elim (hUR a) (fun h => by simp at h; subst h; exact hlk _ hm), fun a ha => List.mem_append_left _ (hSU a ha),
          fun j hj => by rw [← hpre j hj]; simp only [List.getD]; rw [List.getElem?_append_left (by omega)],
          fun j hj => if h : j = k then h ▸ List.mem_append_right _ (by simp) else List.mem_append_left _ (hin j (by have : j < k + 1 := hj; omega))⟩,
          le_of [(66, 12481)] rfl rfl rfl rfl (tellHp_row rfl rfl (show U.length + 1 = (U ++ [lk.getD k 0]).length by simp) (fun q hq => upto_snoc U _ _ rfl q hq) tellHp_nil) (tellFr_x rfl ⟨DLe.refl _, DLe.refl _, DLe.refl _, DLe.refl _, trivial⟩ (tellFr_row rfl rfl (tellFr_v rfl rfl (tellFr_d rfl (DLe.refl _) (tellFr_v rfl rfl (tellFr_v rfl hwk trivial)))))), by show lk.length - (k + 1) < lk.length - k; omega⟩
    · have hnext : ∀ j, j < i + 1 → ∀ b ∈ linksL x (U.getD j 0), b ∈ U := by
        intro j hj b hb
        rw [hpre j (by omega)] at hb
        by_cases e : j = i
        · subst e
          rw [← hlkd] at hb
          obtain ⟨q, hq, rfl⟩ := List.getElem_of_mem hb
          rw [← getD_at 0 hq]
          exact hin q (by omega)
        · exact hSU b (hcS j (by omega) b hb)
      refine bsplit_of_false (decide_eq_false (show ¬ (k : Int) < (lk.length : Int) by omega)) ?_
      exact ⟨⟨(i + 1, U), by show i + 1 ≤ U.length; omega, hnU, hUR, fun a ha => hSU a (hbS a ha), hnext⟩, le_of [(66, 66)] rfl rfl rfl rfl (tellHp_row rfl rfl rfl (fun j hj => rfl) tellHp_nil) (tellFr_x rfl ⟨DLe.refl _, DLe.refl _, DLe.refl _, DLe.refl _, trivial⟩ (tellFr_row rfl rfl (tellFr_v rfl hwi trivial))), by show R.length - (i + 1) < R.length - i; omega⟩
  · have hcl : ∀ a ∈ S, ∀ b ∈ linksL x a, b ∈ S := fun a ha b hb => by
      obtain ⟨q, hq, rfl⟩ := List.getElem_of_mem ha
      rw [← getD_at 0 hq] at hb
      exact hcS q (by omega) b hb
    have hp : S.Perm R := (List.perm_ext_iff_of_nodup hnS (rising_nodup hR.rise)).2 fun a => ⟨hSR a, hR.least S hbS hcl a⟩
    have c3 := c_slices_Sort_int64 S R hp (rising_sorted hR.rise) (by omega)
    refine bsplit_of_false (decide_eq_false (show ¬ (i : Int) < (S.length : Int) by omega)) ?_
    refine .inr ⟨rfl, use_mut ⟨_, _, _, _, _, _, rfl, rfl, c3, rfl, ?_⟩⟩
    exact ⟨⟨⟨rfl, rfl, rfl, fun j hj => ⟨rfl, rfl⟩⟩, trivial⟩, rfl⟩
def reachTo (x : PolM) (g : Int) (R : List Int) : Int × List Int := if askedG x g = 0 then (0, R) else (askedG x g, [])
theorem c_impl_ReachToR (x : PolM) (hs : x.small) (g : Int) (R : List Int) (hR : askedG x g = 0 → ReachI x g R) : FnOK Try.prog 43 [polLV x, di g] (.r (irsR (reachTo x g R))) := by
  have c1 := c_impl_guestFault x hs g
  have c2 := fun h => c_impl_reachTo x hs g R (hR h)
  obtain ⟨r, hr⟩ : ∃ r, r = reachTo x g R := ⟨_, rfl⟩
  rw [← hr]
  unfold reachTo at hr
  generalize askedG x g = e at *
  refine fn_of lv43 Try.func43 rfl rfl (by kernel_rfl) rfl ?_
  refine .inl ⟨_, _, rfl, c1, rfl, ?_⟩
  refine bsplit_intro (fun h => ?_) (fun h => ?_)
  · rw [if_neg (by simpa using h)] at hr
    subst hr
    exact ⟨⟨rfl, ⟨rfl, rfl⟩, trivial⟩, rfl⟩
  have he : e = 0 := by simpa using h
  have c2 := c2 he
  rw [if_pos he] at hr
  subst hr
  refine .inl ⟨_, _, rfl, c2, rfl, ?_⟩
  exact ⟨⟨rfl, ⟨rfl, rfl, rfl, fun j hj => ⟨rfl, rfl⟩⟩, trivial⟩, rfl⟩
end Go.Proofs.Ytdpahckfibnagaa.L

/- Who reaches a guest: the reference, and the plain law. -/
set_option linter.unusedVariables false
set_option linter.unusedSimpArgs false
set_option maxRecDepth 100000
namespace Go.Proofs.Ytdpahckfibnagaa.L
open Go.RowKit
/-- rising numbers of 0 to n - 1 -/
def Bd (n : Nat) (T : List Int) : Prop := T.Pairwise (· < ·) ∧ ∀ a ∈ T, 0 ≤ a ∧ a < (n : Int)
theorem Bd.len {n : Nat} {T : List Int} (h : Bd n T) : T.length ≤ n := by
  have := nodup_len (S := T) (R := (List.range n).map fun (i : Nat) => (i : Int)) (rising_nodup h.1) (fun a ha => by
    have := h.2 a ha
    exact List.mem_map.2 ⟨a.toNat, List.mem_range.2 (by omega), by omega⟩)
  simpa using this
theorem Bd.rise {n : Nat} {T : List Int} {v : Int} (h : Bd n T) (h0 : 0 ≤ v ∧ v < (n : Int)) : Bd n (rise T v) := ⟨rise_rising h.1, fun a ha => (mem_rise.1 ha).elim (h.2 a) (fun e => e ▸ h0)⟩
def addK (x : PolM) (T : List Int) (a : Int) : List Int := (linkS x a).foldl rise T
def roundS (x : PolM) (S : List Int) : List Int := S.foldl (addK x) S
def reachS (x : PolM) (g : Int) : List Int := roundS x (roundS x (roundS x (linkS x g)))
theorem fold_rise {n : Nat} : ∀ {l T : List Int}, Bd n T → (∀ a ∈ l, 0 ≤ a ∧ a < (n : Int)) → Bd n (l.foldl Go.Proofs.Ytdpahckfibnagaa.L.rise T) ∧ ∀ a, a ∈ l.foldl Go.Proofs.Ytdpahckfibnagaa.L.rise T ↔ a ∈ T ∨ a ∈ l
  | [], T, h, _ => ⟨h, fun a => by simp⟩
  | v :: l, T, h, hl => by
    obtain ⟨h1, h2⟩ := fold_rise (l := l) (h.rise (hl v (by simp))) (fun a ha => hl a (List.mem_cons_of_mem _ ha))
    refine ⟨h1, fun a => ?_⟩
    rw [List.foldl_cons, h2, mem_rise, List.mem_cons, or_assoc]
/-- all links lead from guests -/
def LkOK (x : PolM) : Prop := ∀ g a, linked x a g = true → 0 ≤ a ∧ a < (x.own.length : Int)
theorem linkS_bd {x : PolM} (h : LkOK x) (g : Int) : Bd x.own.length (linkS x g) := ⟨foldB_rising g _ _ (foldL_rising g _ _ List.Pairwise.nil), fun a ha => h g a (mem_linkS.1 ha)⟩
theorem addK_bd {x : PolM} (h : LkOK x) {T : List Int} (hT : Bd x.own.length T) (a : Int) : Bd x.own.length (addK x T a) ∧ ∀ b, b ∈ addK x T a ↔ b ∈ T ∨ b ∈ linkS x a :=
  fold_rise hT (linkS_bd h a).2
theorem fold_addK {x : PolM} (h : LkOK x) : ∀ {l T : List Int}, Bd x.own.length T → Bd x.own.length (l.foldl (addK x) T) ∧ ∀ b, b ∈ l.foldl (addK x) T ↔ b ∈ T ∨ ∃ a ∈ l, b ∈ linkS x a
  | [], T, hT => ⟨hT, fun b => by simp⟩
  | v :: l, T, hT => by
    obtain ⟨h1, h2⟩ := fold_addK h (l := l) (addK_bd h hT v).1
    refine ⟨h1, fun b => ?_⟩
    rw [List.foldl_cons, h2, (addK_bd h hT v).2]
    simp [or_assoc]
theorem roundS_bd {x : PolM} (h : LkOK x) {S : List Int} (hS : Bd x.own.length S) : Bd x.own.length (roundS x S) ∧ ∀ b, b ∈ roundS x S ↔ b ∈ S ∨ ∃ a ∈ S, b ∈ linkS x a := fold_addK h hS
def Cl (x : PolM) (S : List Int) : Prop := ∀ a ∈ S, ∀ b ∈ linkS x a, b ∈ S
theorem roundS_cl {x : PolM} (h : LkOK x) {S : List Int} (hS : Bd x.own.length S) (hc : Cl x S) : roundS x S = S :=
  rising_ext _ _ (roundS_bd h hS).1.1 hS.1 fun b => ((roundS_bd h hS).2 b).trans ⟨fun h => h.elim id (fun ⟨a, ha, hb⟩ => hc a ha b hb), .inl⟩
theorem roundS_more {x : PolM} (h : LkOK x) {S : List Int} (hS : Bd x.own.length S) (hc : ¬ Cl x S) : S.length < (roundS x S).length := by
  obtain ⟨h1, h2⟩ := roundS_bd h hS
  have hle := nodup_len (rising_nodup hS.1) (fun a ha => (h2 a).2 (.inl ha))
  rcases Nat.lt_or_ge S.length (roundS x S).length with h3 | h3
  · exact h3
  · exfalso
    refine hc fun a ha b hb => ?_
    rcases Decidable.em (b ∈ S) with hm | hm
    · exact hm
    exfalso
    have := nodup_len (R := roundS x S) (nodup_snoc (rising_nodup hS.1) hm) (fun c hcm => (h2 c).2 ((List.mem_append.1 hcm).elim .inl (fun e => by simp at e; subst e; exact .inr ⟨a, ha, hb⟩)))
    simp at this
    omega
theorem round3_cl {x : PolM} (h : LkOK x) (hn : x.own.length ≤ 3) {S : List Int} (hS : Bd x.own.length S) : Cl x (roundS x (roundS x (roundS x S))) := by
  have b1 := (roundS_bd h hS).1
  have b2 := (roundS_bd h b1).1
  have b3 := (roundS_bd h b2).1
  have l3 := b3.len
  rcases Classical.em (Cl x S) with c0 | c0
  · rw [roundS_cl h hS c0, roundS_cl h hS c0, roundS_cl h hS c0]; exact c0
  have m0 := roundS_more h hS c0
  rcases Classical.em (Cl x (roundS x S)) with c1 | c1
  · rw [roundS_cl h b1 c1, roundS_cl h b1 c1]; exact c1
  have m1 := roundS_more h b1 c1
  rcases Classical.em (Cl x (roundS x (roundS x S))) with c2 | c2
  · rw [roundS_cl h b2 c2]; exact c2
  have m2 := roundS_more h b2 c2
  have : 0 < S.length := by
    rcases Nat.eq_zero_or_pos S.length with e | e
    · exact absurd (fun a ha => by rw [List.length_eq_zero_iff.1 e] at ha; simp at ha) c0
    · exact e
  omega
theorem roundS_least {x : PolM} (h : LkOK x) {S C : List Int} (hS : Bd x.own.length S) (h1 : ∀ a ∈ S, a ∈ C) (h2 : Cl x C) : ∀ a ∈ roundS x S, a ∈ C := fun b hb =>
  (((roundS_bd h hS).2 b).1 hb).elim (h1 b) (fun ⟨a, ha, hb⟩ => h2 a (h1 a ha) b hb)
theorem reachS_I {x : PolM} (h : LkOK x) (hn : x.own.length ≤ 3) (g : Int) : ReachI x g (reachS x g) := by
  have e : ∀ a, linkS x a = linksL x a := fun a => links_eq (fun b hb => h a b hb)
  have b0 := linkS_bd h g
  have b1 := (roundS_bd h b0).1
  have b2 := (roundS_bd h b1).1
  have b3 := (roundS_bd h b2).1
  have hcl := round3_cl h hn b0
  refine ⟨fun a ha => ?_, fun a ha b hb => ?_, fun C h1 h2 => ?_, b3.1, by have := b3.len; show (reachS x g).length ≤ 12; unfold reachS; omega⟩
  · rw [← e] at ha
    exact ((roundS_bd h b2).2 a).2 (.inl (((roundS_bd h b1).2 a).2 (.inl (((roundS_bd h b0).2 a).2 (.inl ha)))))
  · rw [← e] at hb
    exact hcl a ha b hb
  · have hC : Cl x C := fun a ha b hb => h2 a ha b (by rw [← e]; exact hb)
    exact roundS_least h b2 (roundS_least h b1 (roundS_least h b0 (fun a ha => h1 a (by rw [← e]; exact ha)) hC) hC) hC
set_option maxHeartbeats 3200000 in
theorem c_spec_l6Reach (x : PolM) (hl : x.lns.length ≤ 4) (hb : x.bls.length ≤ 4) (h : LkOK x) (hn : x.own.length ≤ 3) (g : Int) : FnOK Try.prog 93 [polP x, di g] (.r (.one (.sh (ints (reachS x g))))) := by
  have c0 := c_spec_l6Links x hl hb g
  obtain ⟨V, hV⟩ : ∃ V, V = reachS x g := ⟨_, rfl⟩
  rw [← hV]
  unfold reachS at hV
  refine fn_of lv93 Try.func93 rfl rfl (by kernel_rfl) rfl ?_
  refine .inl ⟨_, _, rfl, c0, rfl, ?_⟩
  refine ⟨{ p : Nat × List Int // Bd x.own.length p.2 ∧ ((p.1 = 0 ∧ roundS x (roundS x (roundS x p.2)) = V) ∨ (p.1 = 1 ∧ roundS x (roundS x p.2) = V) ∨ (p.1 = 2 ∧ roundS x p.2 = V) ∨ (p.1 = 3 ∧ p.2 = V)) }, fun p => ⟨frL [(0, polP x), (5, .d (ints p.1.2)), (6, di p.1.1)], hpL [], 97, 0⟩, fun p => 3 - p.1.1, ⟨(0, linkS x g), linkS_bd h g, .inl ⟨rfl, hV.symm⟩⟩,
    le_of [] rfl rfl rfl rfl trivial (tellFr_x rfl ⟨DLe.refl _, DLe.refl _, DLe.refl _, DLe.refl _, trivial⟩ (tellFr_d rfl (DLe.refl _) (tellFr_v rfl rfl trivial))), ?_⟩
  rintro ⟨⟨n, S⟩, hS, hall⟩
  simp only at hS hall
  have hSl := hS.len
  by_cases h1 : n < 3
  · have hwn := congrArg (Value.int .i64) (wrap1 h1 (by omega))
    have hnx : (n + 1 = 1 ∧ roundS x (roundS x (roundS x S)) = V) ∨ (n + 1 = 2 ∧ roundS x (roundS x S) = V) ∨ (n + 1 = 3 ∧ roundS x S = V) := by
      rcases hall with e | e | e | e
      · exact .inl ⟨by omega, e.2⟩
      · exact .inr (.inl ⟨by omega, e.2⟩)
      · exact .inr (.inr ⟨by omega, e.2⟩)
      · omega
    have hRb := (roundS_bd h hS).1
    obtain ⟨R, hR⟩ : ∃ R, R = roundS x S := ⟨_, rfl⟩
    rw [← hR] at hnx hRb
    unfold roundS at hR
    refine bsplit_of_true (decide_eq_true (show (n : Int) < 3 by omega)) ?_
    refine ⟨{ p : Nat × List Int // p.1 ≤ S.length ∧ Bd x.own.length p.2 ∧ (S.drop p.1).foldl (addK x) p.2 = R }, fun p => ⟨frL [(0, polP x), (5, .d (ints S)), (6, di n), (7, .d (ints p.1.2)), (8, di p.1.1)], hpL [], 97, 0⟩, fun p => S.length - p.1.1, ⟨(0, S), by omega, hS, hR.symm⟩,
      le_of [] rfl rfl rfl rfl trivial (tellFr_x rfl ⟨DLe.refl _, DLe.refl _, DLe.refl _, DLe.refl _, trivial⟩ (tellFr_d rfl (DLe.refl _) (tellFr_v rfl rfl (tellFr_d rfl (DLe.refl _) (tellFr_v rfl rfl trivial))))), ?_⟩
    rintro ⟨⟨i, T⟩, hi, hT, hTR⟩
    simp only at hi hT hTR
    have hTl := hT.len
    by_cases h2 : i < S.length
    · have hwi := congrArg (Value.int .i64) (wrap1 h2 (by omega))
      rw [drop_consG 0 S i h2, List.foldl_cons] at hTR
      have c1 := c_spec_l6Links x hl hb (S.getD i 0)
      have hmb := linkS_bd h (S.getD i 0)
      have hab := (addK_bd h hT (S.getD i 0)).1
      obtain ⟨A, hA⟩ : ∃ A, A = addK x T (S.getD i 0) := ⟨_, rfl⟩
      rw [← hA] at hTR hab
      unfold addK at hA
      obtain ⟨mo, hmo⟩ : ∃ mo, mo = linkS x (S.getD i 0) := ⟨_, rfl⟩
      rw [← hmo] at c1 hmb hA
      have hml := hmb.len
      refine bsplit_of_true (decide_eq_true (show (i : Int) < (S.length : Int) by omega)) ?_
      refine ask_intro ⟨by omega, by show (i : Int) < (S.length : Int); omega, rfl⟩ ?_
      refine .inl ⟨_, _, rfl, c1, rfl, ?_⟩
      refine ⟨{ p : Nat × List Int // p.1 ≤ mo.length ∧ Bd x.own.length p.2 ∧ (mo.drop p.1).foldl Go.Proofs.Ytdpahckfibnagaa.L.rise p.2 = A }, fun p => ⟨frL [(0, polP x), (5, .d (ints S)), (6, di n), (7, .d (ints p.1.2)), (8, di i), (9, .d (ints mo)), (10, di p.1.1)], hpL [], 97, 0⟩, fun p => mo.length - p.1.1, ⟨(0, T), by omega, hT, hA.symm⟩,
        le_of [] rfl rfl rfl rfl trivial (tellFr_x rfl ⟨DLe.refl _, DLe.refl _, DLe.refl _, DLe.refl _, trivial⟩ (tellFr_d rfl (DLe.refl _) (tellFr_v rfl rfl (tellFr_d rfl (DLe.refl _) (tellFr_v rfl rfl (tellFr_d rfl (DLe.refl _) (tellFr_v rfl rfl trivial))))))), ?_⟩
      rintro ⟨⟨k, U⟩, hk, hU, hUA⟩
      simp only at hk hU hUA
      have hUl := hU.len
      by_cases h3 : k < mo.length
      · have hwk := congrArg (Value.int .i64) (wrap1 h3 (by omega))
        have hin : 0 ≤ mo.getD k 0 ∧ mo.getD k 0 < (x.own.length : Int) := hmb.2 _ (by rw [getD_at 0 h3]; exact List.getElem_mem _)
        rw [drop_consG 0 mo k h3, List.foldl_cons] at hUA
        have c2 := c_spec_l1Rise U (mo.getD k 0) (by omega)
        refine bsplit_of_true (decide_eq_true (show (k : Int) < (mo.length : Int) by omega)) ?_
        refine ask_intro ⟨by omega, by show (k : Int) < (mo.length : Int); omega, rfl⟩ ?_
        refine .inl ⟨_, _, rfl, c2, rfl, ?_⟩
        exact ⟨⟨(k + 1, Go.Proofs.Ytdpahckfibnagaa.L.rise U (mo.getD k 0)), by show k + 1 ≤ _; omega, hU.rise hin, hUA⟩, le_of [] rfl rfl rfl rfl trivial (tellFr_x rfl ⟨DLe.refl _, DLe.refl _, DLe.refl _, DLe.refl _, trivial⟩ (tellFr_d rfl (DLe.refl _) (tellFr_v rfl rfl (tellFr_d rfl (DLe.refl _) (tellFr_v rfl rfl (tellFr_d rfl (DLe.refl _) (tellFr_v rfl hwk trivial))))))), by show mo.length - (k + 1) < mo.length - k; omega⟩
      · rw [List.drop_eq_nil_of_le (by omega)] at hUA
        have hUA : U = A := hUA
        subst hUA
        refine bsplit_of_false (decide_eq_false (show ¬ (k : Int) < (mo.length : Int) by omega)) ?_
        exact ⟨⟨(i + 1, U), by show i + 1 ≤ _; omega, hU, hTR⟩, le_of [] rfl rfl rfl rfl trivial (tellFr_x rfl ⟨DLe.refl _, DLe.refl _, DLe.refl _, DLe.refl _, trivial⟩ (tellFr_d rfl (DLe.refl _) (tellFr_v rfl rfl (tellFr_d rfl (DLe.refl _) (tellFr_v rfl hwi trivial))))), by show S.length - (i + 1) < S.length - i; omega⟩
    · rw [List.drop_eq_nil_of_le (by omega)] at hTR
      have hTR : T = R := hTR
      subst hTR
      refine bsplit_of_false (decide_eq_false (show ¬ (i : Int) < (S.length : Int) by omega)) ?_
      exact ⟨⟨(n + 1, T), hRb, .inr hnx⟩, le_of [] rfl rfl rfl rfl trivial (tellFr_x rfl ⟨DLe.refl _, DLe.refl _, DLe.refl _, DLe.refl _, trivial⟩ (tellFr_d rfl (DLe.refl _) (tellFr_v rfl hwn trivial))), by show 3 - (n + 1) < 3 - n; omega⟩
  · have hSV : S = V := by
      rcases hall with e | e | e | e
      · omega
      · omega
      · omega
      · exact e.2
    subst hSV
    refine bsplit_of_false (decide_eq_false (show ¬ (n : Int) < 3 by omega)) ?_
    exact ⟨⟨DLe.refl _, trivial⟩, rfl⟩
theorem own_few {x : PolM} (h : polFault x = 0) : x.own.length ≤ 3 := by
  unfold polFault at h
  split at h
  · rename_i ho
    unfold ownBad at ho
    cases hq : inR (x.own.length : Int) 1 3 with
    | false => rw [hq] at ho; simp at ho
    | true => have := inR_iff.1 hq; omega
  · rename_i ho; exact absurd h ho
theorem lkOK {x : PolM} (h : polFault x = 0) : LkOK x := fun g a hl => linked_guest h g a hl
def reachTo0 (x : PolM) (g : Int) : Int × List Int := reachTo x g (reachS x g)
theorem c_impl_ReachTo (x : PolM) (hs : x.small) (g : Int) : FnOK Try.prog 43 [polLV x, di g] (.r (irsR (reachTo0 x g))) :=
  c_impl_ReachToR x hs g _ fun h => reachS_I (lkOK (asked_pol h)) (own_few (asked_pol h)) g
theorem c_spec_ReachTo (x : PolM) (hs : x.small) (g : Int) : FnOK Try.prog 42 [polLV x, di g] (.r (irsSh (reachTo0 x g))) := by
  have c1 := c_spec_l6Asked x hs g
  obtain ⟨r, hr⟩ : ∃ r, r = reachTo0 x g := ⟨_, rfl⟩
  rw [← hr]
  unfold reachTo0 reachTo at hr
  by_cases h : askedG x g = 0
  · have hp := asked_pol h
    obtain ⟨q1, q2, _, _⟩ := pol_links hp
    have c2 := c_spec_l6Reach x q1 q2 (lkOK hp) (own_few hp) g
    rw [if_pos h] at hr
    rw [h] at c1
    subst hr
    refine fn_of lv42 Try.func42 rfl rfl (by kernel_rfl) rfl ?_
    refine .inl ⟨_, _, rfl, c1, rfl, ?_⟩
    repeat' (first | refine bsplit_true ?_ | refine bsplit_false ?_)
    refine .inl ⟨_, _, rfl, c2, rfl, ?_⟩
    exact ⟨⟨rfl, DLe.refl _, trivial⟩, rfl⟩
  · rw [if_neg h] at hr
    subst hr
    generalize askedG x g = e at *
    refine fn_of lv42 Try.func42 rfl rfl (by kernel_rfl) rfl ?_
    refine .inl ⟨_, _, rfl, c1, rfl, ?_⟩
    refine bsplit_of_true (by simpa using h) ?_
    exact ⟨⟨rfl, DLe.nil _, trivial⟩, rfl⟩
theorem reachTo0_few (x : PolM) (g : Int) : (reachTo0 x g).2.length ≤ 1048576 := by
  unfold reachTo0 reachTo
  split
  · rename_i h
    have := (reachS_I (lkOK (asked_pol h)) (own_few (asked_pol h)) g).few
    show (reachS x g).length ≤ _
    omega
  · simp
end Go.Proofs.Ytdpahckfibnagaa.L

/- What the functions compute that draw a machine: contracts. -/
set_option linter.unusedVariables false
set_option linter.unusedSimpArgs false
set_option maxRecDepth 100000
namespace Go.Proofs.Ytdpahckfibnagaa.L
open Go.RowKit
structure HartM.drawn (m : HartM) : Prop where
  regs : m.regs.length = 16
  csr : m.csr.length = 11
  inp : m.inp.length ≤ 2
  out : m.out.length ≤ 40
abbrev hartN : List LV := [dv (.slice none 0 0), di 0, dv (.slice none 0 0), dv (.bool false), dv (.bool false), dv (.bool false), di 0, dv (.slice none 0 0), dv (.slice none 0 0)]
theorem setM_drawn {m : HartM} (h : m.drawn) (k w : Int) : (setM m k w).drawn := by
  obtain ⟨h1, h2, h3, h4⟩ := h
  unfold setM setCsrL
  (repeat' split) <;> exact ⟨by simpa using h1, by simpa using h2, by simpa using h3, by simpa using h4⟩
end Go.Proofs.Ytdpahckfibnagaa.L

/- What the functions compute that draw a machine with something bent: contracts. -/
set_option linter.unusedVariables false
set_option linter.unusedSimpArgs false
set_option maxRecDepth 100000
namespace Go.Proofs.Ytdpahckfibnagaa.L
open Go.RowKit
theorem drop_intsB (l : List Int) (k i : Nat) : intsF l (k + i) = intsF (l.drop k) i := by
  show [D.v (.int .i64 (l.getD (k + i) 0))] = [D.v (.int .i64 ((l.drop k).getD i 0))]
  simp [List.getD, List.getElem?_drop]
theorem HartM.drawn.small {m : HartM} (h : m.drawn) : m.small := by
  obtain ⟨h1, h2, h3, h4⟩ := h
  exact ⟨by omega, by omega, by omega, by omega⟩
end Go.Proofs.Ytdpahckfibnagaa.L

/- What the functions compute that draw a machine and what is done to it: contracts. -/
set_option linter.unusedVariables false
set_option linter.unusedSimpArgs false
set_option maxRecDepth 100000
namespace Go.Proofs.Ytdpahckfibnagaa.L
open Go.RowKit
abbrev hartSh (m : HartM) : RV1 := .agg [.sh (ints m.regs), .v (.int .i64 m.pc), .sh (ints m.csr), .v (.bool m.halted), .v (.bool m.waiting), .v (.bool m.rung), .v (.int .i64 m.done), .sh (ints m.inp), .sh (ints m.out)]
theorem c_laws_lwBig (c : List Int) (hc : c.length ≤ 9223372036854775807) : FnOK Try.prog 32 [.d (bytesD c)] (rb (decide ((c.length : Int) > 1048576))) := by
  refine fn_of lv32 Try.func32 rfl rfl (by kernel_rfl) rfl ?_
  exact ⟨⟨rfl, trivial⟩, rfl⟩
end Go.Proofs.Ytdpahckfibnagaa.L

/- The law over reaching answers true. -/
set_option linter.unusedVariables false
set_option linter.unusedSimpArgs false
set_option maxRecDepth 100000
namespace Go.Proofs.Ytdpahckfibnagaa.L
open Go.RowKit
set_option maxHeartbeats 6400000 in
theorem c_laws_FnReaches (c : List Int) (ho : okBytes c) : FnOK Try.prog 13 [.d (bytesD c)] (rb true) := by
  have hrb := reach_eq
  have hlen : c.length * 1 ≤ 140737488351232 := by have := ho.1; omega
  refine fn_of lv13 Try.func13 rfl rfl (by kernel_rfl) rfl ?_
  refine .inl ⟨_, _, rfl, c_laws_lwBig c (by omega), rfl, ?_⟩
  refine bsplit_intro (fun h => ?_) (fun h => ?_)
  · exact ⟨⟨rfl, trivial⟩, rfl⟩
  have hc := ho.code h
  refine .inr ⟨rfl, use_fn ⟨_, _, rfl, c_spec_DrawReachTo c hc, ?_⟩⟩
  rintro _ ⟨x, g, hx, rfl⟩
  refine ⟨rfl, ?_⟩
  have hs := hx.small
  have ci := c_impl_ReachTo x hs g
  have cs := c_spec_ReachTo x hs g
  by_cases h0 : askedG x g = 0
  rotate_left
  · have e : reachTo0 x g = (askedG x g, []) := by unfold reachTo0 reachTo; rw [if_neg h0]
    rw [e] at ci cs
    refine .inl ⟨_, _, rfl, ci, rfl, ?_⟩
    refine bsplit_of_true (by simpa using h0) ?_
    refine .inl ⟨_, _, rfl, cs, rfl, ?_⟩
    refine chk_intro (by kernel_rfl) ?_
    exact ⟨⟨congrArg Value.bool (by simp), trivial⟩, rfl⟩
  have hp := asked_pol2 h0
  have hn3 := own_few3 hp
  have hI := reachS_I (lkOK hp) hn3.2 g
  obtain ⟨R, hR⟩ : ∃ R, R = reachS x g := ⟨_, rfl⟩
  have e : reachTo0 x g = (0, R) := by unfold reachTo0 reachTo; rw [if_pos h0, hR]
  have el : linksTo x g = (0, linksL x g) := by unfold linksTo; rw [if_pos h0]
  rw [e] at ci cs
  rw [← hR] at hI
  have hRf := hI.few
  have cl := c_impl_LinksTo x hs g
  rw [el] at cl
  have hlf := linksTo_few x g
  rw [el] at hlf
  obtain ⟨lk, hlk⟩ : ∃ lk, lk = linksL x g := ⟨_, rfl⟩
  have hbase := hI.base
  rw [← hlk] at cl hlf hbase
  have hlf : lk.length ≤ 1048576 := hlf
  have hmore : ∀ b ∈ R, ∀ a ∈ (reachTo0 x b).2, a ∈ R := fun b hb a ha => by
    unfold reachTo0 reachTo at ha
    split at ha
    · exact (reachS_I (lkOK hp) hn3.2 b).least R (hI.step b hb) hI.step a ha
    · simp at ha
  have hfr := fun (k : Nat) (hk : k < x.own.length) => framesOf_at hp k hk
  have hro := roundOf_at hp
  obtain ⟨p1, p2, p3⟩ := plan_ok hp
  have hsb := sumS_b p3
  have hsg := plan_guest hp
  have hst := sumTo_all hsg
  have hsm := hs.own
  have hsi := hs.ins
  refine .inl ⟨_, _, rfl, ci, rfl, ?_⟩
  refine bsplit_of_false rfl ?_
  refine .inl ⟨_, _, rfl, cl, rfl, ?_⟩
  refine ⟨{ i : Nat // i ≤ lk.length }, fun i => ⟨frL [(3, .ptr 10 0), (5, .ptr 11 0), (6, .d (ints lk)), (7, di i.1)], hpL [(10, .box 34 [.d (owns x.own), .d (lanes x.lns), .d (bells x.bls), .d (slots x.pln)]), (11, .box 58 [di 0, .d (ints R)])], 100, 0⟩, fun i => lk.length - i.1, ⟨0, by omega⟩,
    le_of [(10, 8352), (11, 12384)] rfl rfl rfl rfl (tellHp_box rfl rfl ⟨DLe.refl _, DLe.refl _, DLe.refl _, DLe.refl _, trivial⟩ (tellHp_box rfl rfl ⟨rfl, tellV_frz rfl rfl rfl (DLe.refl _), trivial⟩ tellHp_nil)) (tellFr_ptr rfl rfl (tellFr_ptr rfl rfl (tellFr_x rfl (tellV_frz rfl rfl rfl (DLe.refl _)) (tellFr_v rfl rfl trivial)))), ?_⟩
  rintro ⟨i, hi⟩
  by_cases h1 : i < lk.length
  · have hw := congrArg (Value.int .i64) (wrap1 h1 (by omega))
    have ch := c_laws_lwHas R (lk.getD i 0) (by omega)
    rw [hasI_mem'.2 (hbase _ (by rw [getD_at 0 h1]; exact List.getElem_mem _))] at ch
    refine bsplit_of_true (decide_eq_true (show (i : Int) < (lk.length : Int) by omega)) ?_
    refine ask_intro ⟨by omega, by show (i : Int) < (lk.length : Int); omega, rfl⟩ ?_
    refine .inl ⟨_, _, rfl, ch, rfl, ?_⟩
    refine chk_intro (by kernel_rfl) ?_
    refine bsplit_of_false rfl ?_
    exact ⟨⟨i + 1, by omega⟩, le_of [(10, 10), (11, 11)] rfl rfl rfl rfl (tellHp_box rfl rfl ⟨DLe.refl _, DLe.refl _, DLe.refl _, DLe.refl _, trivial⟩ (tellHp_box rfl rfl ⟨rfl, DLe.refl _, trivial⟩ tellHp_nil)) (tellFr_ptr rfl rfl (tellFr_ptr rfl rfl (tellFr_d rfl (DLe.refl _) (tellFr_v rfl hw trivial)))), by show lk.length - (i + 1) < lk.length - i; omega⟩
  refine bsplit_of_false (decide_eq_false (show ¬ (i : Int) < (lk.length : Int) by omega)) ?_
  refine ⟨{ i : Nat // i ≤ R.length }, fun i => ⟨frL [(3, .ptr 10 0), (5, .ptr 11 0), (8, di i.1)], hpL [(10, .box 34 [.d (owns x.own), .d (lanes x.lns), .d (bells x.bls), .d (slots x.pln)]), (11, .box 58 [di 0, .d (ints R)])], 100, 0⟩, fun i => R.length - i.1, ⟨0, by omega⟩,
    le_of [(10, 10), (11, 11)] rfl rfl rfl rfl (tellHp_box rfl rfl ⟨DLe.refl _, DLe.refl _, DLe.refl _, DLe.refl _, trivial⟩ (tellHp_box rfl rfl ⟨rfl, DLe.refl _, trivial⟩ tellHp_nil)) (tellFr_ptr rfl rfl (tellFr_ptr rfl rfl (tellFr_v rfl rfl trivial))), ?_⟩
  clear h1 hi
  clear i
  rintro ⟨i, hi⟩
  by_cases h1 : i < R.length
  · have hw := congrArg (Value.int .i64) (wrap1 h1 (by omega))
    have hm := hmore (R.getD i 0) (by rw [getD_at 0 h1]; exact List.getElem_mem _)
    have cr := c_impl_ReachTo x hs (R.getD i 0)
    have hmf := reachTo0_few x (R.getD i 0)
    obtain ⟨⟨cd, mo⟩, hmo⟩ : ∃ q, q = reachTo0 x (R.getD i 0) := ⟨_, rfl⟩
    rw [← hmo] at cr hm hmf
    simp only at hm hmf
    refine bsplit_of_true (decide_eq_true (show (i : Int) < (R.length : Int) by omega)) ?_
    refine ask_intro ⟨by omega, by show (i : Int) < (R.length : Int); omega, rfl⟩ ?_
    refine .inl ⟨_, _, rfl, cr, rfl, ?_⟩
    refine chk_intro (by kernel_rfl) ?_
    refine ⟨{ k : Nat // k ≤ mo.length }, fun k => ⟨frL [(3, .ptr 10 0), (5, .ptr 11 0), (8, di i), (9, .d (ints mo)), (10, di k.1)], hpL [(10, .box 34 [.d (owns x.own), .d (lanes x.lns), .d (bells x.bls), .d (slots x.pln)]), (11, .box 58 [di 0, .d (ints R)])], 100, 0⟩, fun k => mo.length - k.1, ⟨0, by omega⟩,
      le_of [(10, 10), (11, 11)] rfl rfl rfl rfl (tellHp_box rfl rfl ⟨DLe.refl _, DLe.refl _, DLe.refl _, DLe.refl _, trivial⟩ (tellHp_box rfl rfl ⟨rfl, DLe.refl _, trivial⟩ tellHp_nil)) (tellFr_ptr rfl rfl (tellFr_ptr rfl rfl (tellFr_v rfl rfl (tellFr_x rfl (tellV_frz rfl rfl rfl (DLe.refl _)) (tellFr_v rfl rfl trivial))))), ?_⟩
    rintro ⟨k, hk⟩
    by_cases h2 : k < mo.length
    · have hwk := congrArg (Value.int .i64) (wrap1 h2 (by omega))
      have ch := c_laws_lwHas R (mo.getD k 0) (by omega)
      rw [hasI_mem'.2 (hm _ (by rw [getD_at 0 h2]; exact List.getElem_mem _))] at ch
      refine bsplit_of_true (decide_eq_true (show (k : Int) < (mo.length : Int) by omega)) ?_
      refine ask_intro ⟨by omega, by show (k : Int) < (mo.length : Int); omega, rfl⟩ ?_
      refine .inl ⟨_, _, rfl, ch, rfl, ?_⟩
      refine chk_intro (by kernel_rfl) ?_
      refine bsplit_of_false rfl ?_
      exact ⟨⟨k + 1, by omega⟩, le_of [(10, 10), (11, 11)] rfl rfl rfl rfl (tellHp_box rfl rfl ⟨DLe.refl _, DLe.refl _, DLe.refl _, DLe.refl _, trivial⟩ (tellHp_box rfl rfl ⟨rfl, DLe.refl _, trivial⟩ tellHp_nil)) (tellFr_ptr rfl rfl (tellFr_ptr rfl rfl (tellFr_v rfl rfl (tellFr_d rfl (DLe.refl _) (tellFr_v rfl hwk trivial))))), by show mo.length - (k + 1) < mo.length - k; omega⟩
    · refine bsplit_of_false (decide_eq_false (show ¬ (k : Int) < (mo.length : Int) by omega)) ?_
      exact ⟨⟨i + 1, by omega⟩, le_of [(10, 10), (11, 11)] rfl rfl rfl rfl (tellHp_box rfl rfl ⟨DLe.refl _, DLe.refl _, DLe.refl _, DLe.refl _, trivial⟩ (tellHp_box rfl rfl ⟨rfl, DLe.refl _, trivial⟩ tellHp_nil)) (tellFr_ptr rfl rfl (tellFr_ptr rfl rfl (tellFr_v rfl hw trivial))), by show R.length - (i + 1) < R.length - i; omega⟩
  refine bsplit_of_false (decide_eq_false (show ¬ (i : Int) < (R.length : Int) by omega)) ?_
  refine ⟨{ k : Nat // k ≤ x.own.length }, fun k => ⟨frL [(3, .ptr 10 0), (11, di (sumTo x.pln k.1)), (12, di k.1)], hpL [(10, .box 34 [.d (owns x.own), .d (lanes x.lns), .d (bells x.bls), .d (slots x.pln)])], 100, 0⟩, fun k => x.own.length - k.1, ⟨0, by omega⟩,
    le_of [(10, 10)] rfl rfl rfl rfl (tellHp_box rfl rfl ⟨DLe.refl _, DLe.refl _, DLe.refl _, DLe.refl _, trivial⟩ tellHp_nil) (tellFr_ptr rfl rfl (tellFr_v rfl rfl (tellFr_v rfl rfl trivial))), ?_⟩
  clear h1 hi
  clear i
  rintro ⟨k, hk⟩
  by_cases h1 : k < x.own.length
  · have hw := congrArg (Value.int .i64) (wrap1 h1 (by omega))
    have cf := c_impl_FramesOf x hs k
    rw [hfr k h1] at cf
    have hb1 := sumTo_b p3 k
    have hb2 := sumG_b (k : Int) p3
    have hmul : (k : Int) * sumS x.pln ≤ 3 * 400 := by
      have : (k : Int) * sumS x.pln ≤ 3 * sumS x.pln := Int.mul_le_mul_of_nonneg_right (by omega) (by omega)
      omega
    have hws : IntKind.i64.wrap (sumTo x.pln k + sumG (k : Int) x.pln) = sumTo x.pln (k + 1) := by rw [wrap_i64 _ (by omega) (by omega)]; rfl
    have hr3 := hsi k h1
    obtain ⟨r, hr⟩ : ∃ r, r = x.own.getD k [] := ⟨_, rfl⟩
    have hoo : ∀ j, j < r.length → ownerOf x (r.getD j 0) = (0, (k : Int)) := fun j hj => ownerOf_at hp k h1 _ (by rw [← hr, getD_at 0 hj]; exact List.getElem_mem _)
    have hrl : ∀ d, x.own.getD k d = r := fun d => by rw [hr, getD_at d h1, getD_at [] h1]
    refine bsplit_of_true (decide_eq_true (show (k : Int) < (x.own.length : Int) by omega)) ?_
    refine .inl ⟨_, _, rfl, cf, rfl, ?_⟩
    refine ⟨{ j : Nat // j ≤ r.length }, fun j => ⟨frL [(3, .ptr 10 0), (11, di (sumTo x.pln (k + 1))), (12, di k), (13, di j.1)], hpL [(10, .box 34 [.d (owns x.own), .d (lanes x.lns), .d (bells x.bls), .d (slots x.pln)])], 100, 0⟩, fun j => r.length - j.1, ⟨0, by omega⟩,
      le_of [(10, 10)] rfl rfl rfl rfl (tellHp_box rfl rfl ⟨DLe.refl _, DLe.refl _, DLe.refl _, DLe.refl _, trivial⟩ tellHp_nil) (tellFr_ptr rfl rfl (tellFr_v rfl (congrArg (Value.int .i64) hws) (tellFr_v rfl rfl (tellFr_v rfl rfl trivial)))), ?_⟩
    rintro ⟨j, hj⟩
    refine ask_intro ⟨by omega, by show (k : Int) < (x.own.length : Int); omega, rfl⟩ ?_
    by_cases h2 : j < r.length
    · have hwj := congrArg (Value.int .i64) (wrap1 h2 (by rw [hr]; omega))
      have co := c_impl_OwnerOf x hs ((x.own.getD k []).getD j 0)
      have hoj := hoo j h2
      rw [hr] at hoj
      rw [hoj] at co
      refine bsplit_of_true (decide_eq_true (show (j : Int) < ((x.own.getD k []).length : Int) by rw [← hr]; omega)) ?_
      refine ask_intro ⟨by omega, by show (k : Int) < (x.own.length : Int); omega, rfl⟩ ?_
      refine ask_intro ⟨by omega, by show (j : Int) < ((x.own.getD k []).length : Int); rw [← hr]; omega, rfl⟩ ?_
      refine .inl ⟨_, _, rfl, co, rfl, ?_⟩
      refine chk_intro (by kernel_rfl) ?_
      refine bsplit_of_false (show ((k : Int) != (k : Int)) = false by simp) ?_
      exact ⟨⟨j + 1, by omega⟩, le_of [(10, 10)] rfl rfl rfl rfl (tellHp_box rfl rfl ⟨DLe.refl _, DLe.refl _, DLe.refl _, DLe.refl _, trivial⟩ tellHp_nil) (tellFr_ptr rfl rfl (tellFr_v rfl rfl (tellFr_v rfl rfl (tellFr_v rfl hwj trivial)))), by show r.length - (j + 1) < r.length - j; omega⟩
    · refine bsplit_of_false (decide_eq_false (show ¬ (j : Int) < ((x.own.getD k []).length : Int) by rw [← hr]; omega)) ?_
      exact ⟨⟨k + 1, by omega⟩, le_of [(10, 10)] rfl rfl rfl rfl (tellHp_box rfl rfl ⟨DLe.refl _, DLe.refl _, DLe.refl _, DLe.refl _, trivial⟩ tellHp_nil) (tellFr_ptr rfl rfl (tellFr_v rfl rfl (tellFr_v rfl hw trivial))), by show x.own.length - (k + 1) < x.own.length - k; omega⟩
  obtain rfl : k = x.own.length := by omega
  have cr := c_impl_RoundOf x hs
  rw [hro] at cr
  refine bsplit_of_false (decide_eq_false (show ¬ (x.own.length : Int) < (x.own.length : Int) by omega)) ?_
  refine .inl ⟨_, _, rfl, cr, rfl, ?_⟩
  refine bsplit_of_true (show (sumTo x.pln x.own.length == sumS x.pln) = true by rw [hst]; simp) ?_
  repeat' (first | refine bsplit_true ?_ | refine bsplit_false ?_)
  exact ⟨⟨congrArg Value.bool (show decide (sumTo x.pln x.own.length > 0) = true from decide_eq_true (by rw [hst]; omega)), trivial⟩, rfl⟩
end Go.Proofs.Ytdpahckfibnagaa.L

/- The law FnReaches answers true at every input that its statement lets in. -/
set_option linter.unusedVariables false
set_option maxRecDepth 100000
namespace Go.Proofs.Ytdpahckfibnagaa.L.FnReaches
open Go.RowKit Go.ChangeShapes Go.WideShapes Go.ChangeAt
theorem lifted (os : Os) (started : os.Started) (H : Type) (enc : TypeId × Value → H) :
    ReturnsInHanded {} Try.checked os 13 .any (Rows.fnReachesSpec.pre6 enc Try.prog Try.f13 Rows.fnReachesRow.domain false) (Rows.fnReachesSpec.post enc Try.prog Try.f13 false true false false) := by
  refine returnsInHanded_of_change_sized (C := Try.checked) own started (by kernel_rfl) Try.func13
    (ChangeSpec.witness6 (enc := enc) (C := Try.checked) false ⟨#[], #[.slice none 0 0], []⟩ 8 (by kernel_rfl) (by kernel_rfl) (by kernel_rfl) (by kernel_rfl)) ?_
  intro W base args ds gs before hval0 hW hcnd hsz0 _
  have hsz : (DataW.weightsEach Try.prog (Try.f13.params.toList ++ Rows.fnReachesSpec.plain.varTypes Try.prog) (ds ++ gs)).all (· ≤ reachBytes) = true := hsz0
  have hval : ∀ (j : Nat) t v, Try.f13.params[j]? = some t → args[j]? = some v → Value.okWide Try.prog W .any base t v := hval0
  have hW' := hW
  obtain ⟨p, q, hA0, hV, rfl, hfz, hnd⟩ := hW
  have hA : DataW.TrodAll enc Try.prog W 0 (fun _ => true) true Try.f13.params.toList args.toList ds p := hA0
  rw [Try.params13] at hA hval hsz
  obtain ⟨v0, vs0, d0, ds0, p0, q0, hargs, rfl, rfl, h0, r0⟩ := trodAll_cons hA
  obtain ⟨rfl, rfl, rfl⟩ := trodAll_nil r0
  obtain rfl : args = #[v0] := by cases args; simp_all
  obtain ⟨rfl, rfl⟩ := trodVars_none hV
  have hsm : ∀ k ∈ DataW.weightsEach Try.prog ([52] ++ Rows.fnReachesSpec.plain.varTypes Try.prog) ([d0] ++ []), k ≤ reachBytes := fun k hk => by simpa using List.all_eq_true.1 hsz k hk
  have k0 := h0
  have lt0 : ∀ x ∈ p0, x.block < W.heap.size := by obtain ⟨m, hm⟩ := k0; exact DataW.trod_lt m _ _ _ hm
  have c0 : v0.cells = #[v0] := by have z := okWide_slice Try.underlying52 (hval 0 52 v0 rfl rfl); (first | (obtain ⟨_, rfl⟩ := z; rfl) | (obtain ⟨_, _, _, rfl⟩ := z; rfl))
  obtain ⟨m0, hm0, hvr0⟩ := reads_bytes.one c0 h0 (fun k hk => hsm k (DataW.weights_mem_each (j := 0) rfl rfl k hk))
  refine ((c_laws_FnReaches m0 hm0).calls W (Mem W) [v0] ⟨fun b hb => hb, fun g vs h => by cases h⟩ rfl (fun j hj => ?_)).mono fun e W' ⟨v, he, bel, hrr⟩ => ?_
  · match j, hj with
    | 0, _ => exact hvr0
    | j + 1, hj => exact absurd hj (by simp)
  · obtain ⟨us, J, hl, rfl, hJ, hok, _, _⟩ := hrr.ex
    have h1 := hok 0 _ rfl
    have h2 : RV.val us (rb true) = .bool true := h1
    rw [h2] at he
    subst he
    exact ⟨_, rfl, _, _, _, [], _, [], hW', trodAll_mk1 (shut_bool Try.underlying4 _), (trodAll_cons_mk (Below.trod laidOut (by kernel_rfl) (of_decide_eq_true (by kernel_rfl)) k0 bel lt0) trodAll_mk0), rfl, bel.frame _, fun h => by cases h⟩
theorem over : Rows.fnReachesRow.holds Try.pinned (OpenSpec.ofChange Rows.fnReachesSpec) :=
  OpenClaim.holds_of_wide 13 Try.f13 rfl rfl rfl rfl rfl rfl rfl ⟨rfl, rfl, rfl, rfl, rfl⟩ rfl rfl rfl rfl rfl (by kernel_rfl) Try.func13 (by kernel_rfl)
    (of_decide_eq_true (by kernel_rfl)) (by unfold Func.isWrapper; first | (rw [if_pos (by decide +kernel)]; kernel_rfl) | (rw [if_neg (by decide +kernel)]; exact ⟨rfl, rfl⟩))
    (fun os started H enc _ => lifted os started H enc)
end Go.Proofs.Ytdpahckfibnagaa.L.FnReaches
namespace Go.Proofs.Ytdpahckfibnagaa
theorem fnReaches_holds : Rows.FnReachesSaid := L.FnReaches.over
#print axioms fnReaches_holds
end Go.Proofs.Ytdpahckfibnagaa
