/- The law FnPolicies answers true at every input that its statement lets in. -/
import Derived.Test.YtojaakpnpdnbhaaGreatDoorMz
import Derived.Test.YtojaakpnpdnbhaaGreatDoorLs
import Derived.Handed
import Derived.HandedShaped
import Derived.Shelf.Vars
import Derived.Test.YtojaakpnpdnbhaaGreatDoorRows
import Derived.Test.YtojaakpnpdnbhaaGreatDoorCards
import Derived.Test.YtojaakpnpdnbhaaGreatDoorTie
import Derived.SevenTiedAt
import Derived.LaidLaws
import Derived.LaidMore
import Derived.Lay
import Derived.MakeChecks
import Derived.Stop.LaidErr
import Derived.Stop.Joined
import Derived.Test.YtojaakpnpdnbhaaGreatDoorZ1
import Derived.Test.YtojaakpnpdnbhaaGreatDoorZ2
/- Policies that are drawn and bent: contracts. -/
set_option linter.unusedVariables false
set_option linter.unusedSimpArgs false
set_option maxRecDepth 100000
namespace Go.Proofs.YtojaakpnpdnbhaaGreatDoor.L
open Go.RowKit
theorem DLe.l2 {n m : Nat} {f g : Nat → List D} (hn : n = m) (h : ∀ i, i < n → (f i).length = (g i).length ∧ ∀ j, j < (f i).length → DLe ((f i).getD j (.v undef)) ((g i).getD j (.v undef))) : DLe (.l n f) (.l m g) := by
  subst hn
  intro w I v hr
  cases hr with
  | nil f A c => exact .nil _ _ _
  | l n f a c sz vs h0 hc hI hs hz hl hv h1 hr =>
    exact .l n g a c sz vs h0 hc hI hs hz (fun i hi => by rw [← (h i hi).1]; exact hl i hi) hv h1 (fun i j hi hj => (h i hi).2 j (by rw [hl i hi]; exact hj) _ _ _ (hr i j hi hj))
theorem DLe.of_eq {x y : D} (h : x = y) : DLe x y := h ▸ DLe.refl _
structure PolM.few (x : PolM) : Prop where
  own : x.own.length ≤ 4
  ins : ∀ i, i < x.own.length → (x.own.getD i []).length ≤ 3
  lns : x.lns.length ≤ 5
  bls : x.bls.length ≤ 4
  pln : x.pln.length ≤ 9
theorem PolM.few.small {x : PolM} (h : x.few) : x.small := by
  obtain ⟨h1, h2, h3, h4, h5⟩ := h
  exact ⟨by omega, fun i hi => by have := h2 i hi; omega, by omega, by omega, by omega⟩
theorem PolM.drawn.few {x : PolM} (h : x.drawn) : x.few := by
  obtain ⟨h1, h2, h3, h4, h5, h6, h7⟩ := h
  exact ⟨by omega, fun i hi => (h3 i hi).2, by omega, by omega, by omega⟩
theorem nestEl_h1 {s : LS} {L : Nat → Nat} {f : Nat → Nat → List D} {k m : Nat} {e : TypeId} {sz : Nat} {h : Nat → List D} (hk : s.hp k = some (.row e sz m h)) (i : Nat) : nestEl s L f [(0, .hole k)] i = if i = 0 then [.l m h] else [.l (L i) (f i)] := by
  unfold nestEl nOf
  cases i with
  | zero =>
    show (match s.hp k with | some (.row _ _ m h) => [D.l m h] | _ => []) = _
    rw [hk]; rfl
  | succ i => rfl
theorem nestEl_h2 {s : LS} {L : Nat → Nat} {f : Nat → Nat → List D} {k m n1 : Nat} {e : TypeId} {sz : Nat} {h : Nat → List D} (hk : s.hp k = some (.row e sz m h)) (i : Nat) : nestEl s L f [(n1, .hole k), (0, .hole k)] i = if i = n1 ∨ i = 0 then [.l m h] else [.l (L i) (f i)] := by
  unfold nestEl nOf
  simp only [lookN]
  by_cases h1 : i = n1
  · subst h1
    rw [Nat.beq_refl, cond_true, if_pos (.inl rfl)]
    show (match s.hp k with | some (.row _ _ m h) => [D.l m h] | _ => []) = _
    rw [hk]
  · have e1 : Nat.beq i n1 = false := by rw [← Bool.not_eq_true, Nat.beq_eq]; exact h1
    rw [e1, cond_false]
    by_cases h2 : i = 0
    · subst h2
      rw [if_pos (.inr rfl)]
      show (match s.hp k with | some (.row _ _ m h) => [D.l m h] | _ => []) = _
      rw [hk]
    · have e2 : Nat.beq i 0 = false := by rw [← Bool.not_eq_true, Nat.beq_eq]; exact h2
      rw [e2, cond_false, if_neg (by omega)]
theorem nestEl_d1 {s : LS} {L : Nat → Nat} {f : Nat → Nat → List D} {x : D} (i : Nat) : nestEl s L f [(0, .dat x)] i = if i = 0 then [x] else [.l (L i) (f i)] := by
  unfold nestEl nOf
  cases i with
  | zero => rfl
  | succ i => rfl
theorem app_lane1 (l : List LaneM) (z : LaneM) (q : Nat) (hq : q < l.length + 1) : upto l.length (lanesF l) (fun i => ([laneD z] : List (List D)).getD i []) q = lanesF (l ++ [z]) q := by
  unfold upto
  by_cases h : q < l.length
  · rw [if_pos h]
    show laneD (l.getD q _) = laneD ((l ++ [z]).getD q _)
    simp only [List.getD]
    rw [List.getElem?_append_left h]
  · rw [if_neg h]
    obtain rfl : q = l.length := by omega
    rw [Nat.sub_self]
    show laneD z = laneD ((l ++ [z]).getD l.length _)
    simp [List.getD]
theorem app_bell2 (l : List BellM) (y z : BellM) (q : Nat) (hq : q < l.length + 2) : upto l.length (bellsF l) (fun i => ([bellD y, bellD z] : List (List D)).getD i []) q = bellsF (l ++ [y, z]) q := by
  unfold upto
  by_cases h : q < l.length
  · rw [if_pos h]
    show bellD (l.getD q _) = bellD ((l ++ [y, z]).getD q _)
    simp only [List.getD]
    rw [List.getElem?_append_left h]
  · rw [if_neg h]
    show _ = bellD ((l ++ [y, z]).getD q _)
    simp only [List.getD]
    rw [List.getElem?_append_right (by omega)]
    obtain e | e : q - l.length = 0 ∨ q - l.length = 1 := by omega
    · rw [e]; rfl
    · rw [e]; rfl
theorem set_slot {l : List SlotM} {z : SlotM} (hl : 0 < l.length) (j : Nat) : (if j = 0 then splice (slotsF l j) 0 (slotD z) else slotsF l j) = slotsF (l.set 0 z) j := by
  show _ = slotD ((l.set 0 z).getD j ⟨0, 0⟩)
  by_cases e : j = 0
  · subst e
    rw [if_pos rfl]
    simp [List.getD, splice]
    rw [List.getElem?_eq_getElem (by simpa using hl)]
    simp
  · rw [if_neg e]
    show slotD (l.getD j ⟨0, 0⟩) = _
    simp [List.getD, List.getElem?_set_ne (Ne.symm e)]
theorem rep_slot (j : Nat) (hj : j < 9) : [D.v (.int .i64 0), D.v (.int .i64 0)] = slotsF (List.replicate 9 ⟨0, 0⟩) j := by
  show _ = slotD (((List.replicate 9 (⟨0, 0⟩ : SlotM))[j]?).getD ⟨0, 0⟩)
  rw [List.getElem?_replicate, if_pos hj]
  rfl
theorem rep_lane (j : Nat) (hj : j < 5) : [D.v (.int .i64 0), D.v (.int .i64 0), D.v (.int .i64 0), D.v (.int .i64 0), D.v (.int .i64 0)] = lanesF (List.replicate 5 ⟨0, 0, 0, 0, 0⟩) j := by
  show _ = laneD (((List.replicate 5 (⟨0, 0, 0, 0, 0⟩ : LaneM))[j]?).getD ⟨0, 0, 0, 0, 0⟩)
  rw [List.getElem?_replicate, if_pos hj]
  rfl
theorem set_head (l : List (List Int)) (m : List Int) (i : Nat) (hl : 0 < l.length) : (l.set 0 m).getD i [] = if i = 0 then m else l.getD i [] := by
  by_cases e : i = 0
  · subst e; simp [List.getD, List.getElem?_set_self hl]
  · rw [if_neg e]; simp [List.getD, List.getElem?_set_ne (Ne.symm e)]
theorem own_c0 (ow : List (List Int)) (h0 : 1 ≤ ow.length) (h1 : 1 ≤ (ow.getD 0 []).length) (v : Int) (i : Nat) : (if i = 0 then [D.l (lenF ow 0) (fun j => if j = 0 then splice (inF ow 0 j) 0 [D.v (.int .i64 v)] else inF ow 0 j)] else [D.l (lenF ow i) (inF ow i)]) = ownsF (ow.set 0 ((ow.getD 0 []).set 0 v)) i := by
  show _ = [ints ((ow.set 0 ((ow.getD 0 []).set 0 v)).getD i [])]
  rw [set_head ow _ i (by omega)]
  by_cases e : i = 0
  · rw [if_pos e, if_pos e]
    have e1 : (fun j => if j = 0 then splice (inF ow 0 j) 0 [D.v (.int .i64 v)] else inF ow 0 j) = intsF ((ow.getD 0 []).set 0 v) := by
      funext j
      by_cases ej : j = 0
      · subst ej
        rw [if_pos rfl]
        show [D.v (.int .i64 v)] = [D.v (.int .i64 (((ow.getD 0 []).set 0 v).getD 0 0))]
        simp only [List.getD]
        rw [List.getElem?_set_self (by show 0 < (ow.getD 0 []).length; omega)]
        rfl
      · rw [if_neg ej]
        show [D.v (.int .i64 ((ow.getD 0 []).getD j 0))] = [D.v (.int .i64 (((ow.getD 0 []).set 0 v).getD j 0))]
        simp only [List.getD]
        rw [List.getElem?_set_ne (Ne.symm ej)]
    rw [e1]
    show [D.l (ow.getD 0 []).length _] = [D.l ((ow.getD 0 []).set 0 v).length _]
    rw [List.length_set]
  · rw [if_neg e, if_neg e]
theorem own_c1 (ow : List (List Int)) (h0 : 1 ≤ ow.length) (i : Nat) (hi : i < ow.length + 1) : (if i = ow.length ∨ i = 0 then [D.l (lenF ow 0) (inF ow 0)] else [D.l (uptoN ow.length (lenF ow) (fun _ => 0) i) (uptoN ow.length (inF ow) (fun _ _ => []) i)]) = ownsF (ow ++ [ow.getD 0 []]) i := by
  show _ = [ints ((ow ++ [ow.getD 0 []]).getD i [])]
  by_cases e : i = ow.length
  · rw [if_pos (.inl e), e, app_last]
  · have hl : (ow ++ [ow.getD 0 []]).getD i [] = ow.getD i [] := by simp only [List.getD]; rw [List.getElem?_append_left (by omega)]
    rw [hl]
    by_cases e2 : i = 0
    · rw [if_pos (.inr e2), e2]
    · rw [if_neg (by omega)]
      unfold uptoN
      rw [if_pos (by omega), if_pos (by omega)]
theorem own_c7 (ow : List (List Int)) (h0 : 1 ≤ ow.length) (i : Nat) : ((if i = 0 then [D.v (.slice none 0 0)] else [D.l (lenF ow i) (inF ow i)]) : List D).length = (ownsF (ow.set 0 []) i).length ∧ ∀ j, j < ((if i = 0 then [D.v (.slice none 0 0)] else [D.l (lenF ow i) (inF ow i)]) : List D).length → DLe (((if i = 0 then [D.v (.slice none 0 0)] else [D.l (lenF ow i) (inF ow i)]) : List D).getD j (.v undef)) ((ownsF (ow.set 0 []) i).getD j (.v undef)) := by
  have e1 : ownsF (ow.set 0 []) i = [ints (if i = 0 then [] else ow.getD i [])] := by
    show [ints ((ow.set 0 []).getD i [])] = _
    rw [set_head ow _ i (by omega)]
  rw [e1]
  by_cases e : i = 0
  · rw [if_pos e, if_pos e]
    refine ⟨rfl, fun j hj => ?_⟩
    obtain rfl : j = 0 := by simp at hj; omega
    exact DLe.nil _
  · rw [if_neg e, if_neg e]
    exact ⟨rfl, fun j hj => DLe.refl _⟩
theorem own_d7 (s : LS) (ow : List (List Int)) (h0 : 1 ≤ ow.length) : DLe (.l ow.length (nestEl s (lenF ow) (inF ow) [(0, .dat (.v (.slice none 0 0)))])) (owns (ow.set 0 [])) :=
  DLe.l2 (by rw [List.length_set]) fun i hi => by rw [nestEl_d1 i]; exact own_c7 ow h0 i
set_option maxHeartbeats 3200000 in
theorem c_spec_l6Bent (c : List Int) (hc : okCode c) (p : Int) (hp : 0 ≤ p) (hp2 : p ≤ 109951162) : MutS Tryz.prog 26 [.ptr 0 0] 1 [(0, srcBox c p)]
    (fun lv m' hp1 => ∃ (x : PolM) (q : Int), x.few ∧ p ≤ q ∧ q ≤ p + 70 ∧ lv = polLV x ∧ m' = 1 ∧ hp1 = [(0, srcBox c q)]) := by
  refine mutS_fn_of lv26 Tryz.func26 rfl rfl (by kernel_rfl) rfl ?_
  refine .inr ⟨rfl, use_mutS ⟨_, _, _, _, rfl, rfl, c_spec_l6Policy c hc p hp (by omega), rfl, ?_⟩⟩
  rintro _ _ _ ⟨x, q, hx, hq1, hq2, rfl, rfl, rfl⟩
  refine ⟨rfl, ?_⟩
  have hfew := hx.few
  obtain ⟨ow, ln, bl, pn⟩ := x
  have h0 : 1 ≤ ow.length := hx.own
  have h03 : ow.length ≤ 3 := hx.own3
  have h1 : 1 ≤ (ow.getD 0 []).length ∧ (ow.getD 0 []).length ≤ 3 := hx.ins 0 hx.own
  have h2 : 1 ≤ pn.length := hx.pln
  have hll : ln.length ≤ 3 := hx.lns
  have hbl : bl.length ≤ 2 := hx.bls
  have hpl : pn.length ≤ 4 := hx.pln4
  have hins : ∀ i, i < ow.length → (ow.getD i []).length ≤ 3 := fun i hi => (hx.ins i hi).2
  have hp0 : 0 ≤ q := by omega
  have hlen1 : (ow ++ [ow.getD 0 []]).length = ow.length + 1 := by simp
  have hins1 : ∀ i, i < (ow ++ [ow.getD 0 []]).length → ((ow ++ [ow.getD 0 []]).getD i []).length ≤ 3 := fun i hi => by
    by_cases e : i < ow.length
    · have e2 : (ow ++ [ow.getD 0 []]).getD i [] = ow.getD i [] := by simp only [List.getD]; rw [List.getElem?_append_left e]
      rw [e2]; exact hins i e
    · obtain rfl : i = ow.length := by omega
      rw [app_last]; exact h1.2
  have hset : ∀ m : List Int, m.length ≤ 3 → ∀ i, i < (ow.set 0 m).length → ((ow.set 0 m).getD i []).length ≤ 3 := fun m hm i hi => by
    rw [List.length_set] at hi
    rw [set_head ow m i (by omega)]
    split
    · exact hm
    · exact hins i hi
  repeat' (first | refine bsplit_true ?_ | refine bsplit_false ?_ | (refine .inr ⟨rfl, use_mut ⟨?_, ?_, ?_, ?_, ?_, ?_, ?_, ?_, ?_, ?_, ?_⟩⟩; rotate_left 6; exact rfl; exact rfl; (first | (refine c_spec_l1Next c hc _ _ ?_ ?_ <;> (first | omega | (dsimp only; omega))) | (refine pick3 c hc _ _ _ _ ?_ ?_ <;> (first | omega | (dsimp only; omega))) | (refine pick4 c hc _ _ _ _ _ ?_ ?_ <;> (first | omega | (dsimp only; omega))) | (refine pick2 c hc _ _ _ ?_ ?_ <;> (first | omega | (dsimp only; omega))) | (refine pick6 c hc _ _ _ _ _ _ _ ?_ ?_ <;> (first | omega | (dsimp only; omega))) | (refine pick7 c hc _ _ _ _ _ _ _ _ ?_ ?_ <;> (first | omega | (dsimp only; omega))) | (refine pick5 c hc _ _ _ _ _ _ ?_ ?_ <;> (first | omega | (dsimp only; omega)))); rfl))
  refine bsplit_intro (fun e => ?_) (fun _ => ?_)
  · refine ask_intro ⟨by omega, by show (0 : Int) < (ow.length : Int); omega⟩ ?_
    refine ask_intro (by show 0 < ow.length; omega) ?_
    refine .inr ⟨_, _, use_mut ⟨_, _, _, _, _, _, rfl, rfl, pick3 c hc (q + 1) (-1) 24 3 (by omega) (by omega), rfl, ⟨rfl, rfl⟩⟩, ?_⟩
    refine ask_intro ⟨by omega, by show (0 : Int) < ((ow.getD 0 []).length : Int); omega⟩ ?_
    refine ask_intro (by show 0 < (ow.getD 0 []).length; omega) ?_
    refine chk_intro (by kernel_rfl) ?_
    exact ⟨_, _, _, [], ⟨⟨ow.set 0 ((ow.getD 0 []).set 0 (pk c (q + 1) [-1, 24, 3])), ln, bl, pn⟩, q + 1 + 1, ⟨by show (ow.set 0 _).length ≤ 4; rw [List.length_set]; omega, hset _ (by rw [List.length_set]; exact h1.2), by show ln.length ≤ 5; omega, by show bl.length ≤ 4; omega, by show pn.length ≤ 9; omega⟩, by omega, by omega, rfl, rfl, rfl⟩, chk_intro (by kernel_rfl) ⟨⟨tellV_frzH rfl rfl rfl (DLe.l (by rw [List.length_set]) (fun i hi => Eq.trans (nestEl_h1 rfl i) (own_c0 ow h0 h1.1 _ i))), tellV_frz rfl rfl rfl (DLe.refl _), tellV_frz rfl rfl rfl (DLe.refl _), tellV_frz rfl rfl rfl (DLe.refl _), trivial⟩, tellHp_box rfl rfl ⟨DLe.refl _, rfl, trivial⟩ tellHp_nil⟩⟩
  refine bsplit_intro (fun e => ?_) (fun _ => ?_)
  · refine ask_intro ⟨by omega, by show (0 : Int) < (ow.length : Int); omega⟩ ?_
    refine ask_intro (by show 0 < ow.length; omega) ?_
    refine ask_intro trivial ?_
    refine ask_intro ⟨by show (ow.length + 1) * 24 ≤ 140737488355328; omega, by show ow.length + 1 ≤ 9223372036854775807; omega, by show 0 < ow.length; omega, trivial⟩ ?_
    refine chk_intro (by kernel_rfl) ?_
    exact ⟨_, _, _, [], ⟨⟨ow ++ [ow.getD 0 []], ln, bl, pn⟩, q + 1, ⟨by show (ow ++ _).length ≤ 4; omega, hins1, by show ln.length ≤ 5; omega, by show bl.length ≤ 4; omega, by show pn.length ≤ 9; omega⟩, by omega, by omega, rfl, rfl, rfl⟩, chk_intro (by kernel_rfl) ⟨⟨tellV_frzH rfl rfl rfl (DLe.l hlen1.symm (fun i hi => Eq.trans (nestEl_h2 rfl i) (own_c1 ow h0 i hi))), tellV_frz rfl rfl rfl (DLe.refl _), tellV_frz rfl rfl rfl (DLe.refl _), tellV_frz rfl rfl rfl (DLe.refl _), trivial⟩, tellHp_box rfl rfl ⟨DLe.refl _, rfl, trivial⟩ tellHp_nil⟩⟩
  refine bsplit_intro (fun e => ?_) (fun _ => ?_)
  · exact ⟨_, _, _, [], ⟨⟨[], ln, bl, pn⟩, q + 1, ⟨by show (0 : Nat) ≤ 4; omega, fun i hi => absurd hi (Nat.not_lt_zero _), hfew.lns, hfew.bls, hfew.pln⟩, by omega, by omega, rfl, rfl, rfl⟩, chk_intro (by kernel_rfl) ⟨⟨DLe.nil _, tellV_frz rfl rfl rfl (DLe.refl _), tellV_frz rfl rfl rfl (DLe.refl _), tellV_frz rfl rfl rfl (DLe.refl _), trivial⟩, tellHp_box rfl rfl ⟨DLe.refl _, rfl, trivial⟩ tellHp_nil⟩⟩
  refine bsplit_intro (fun e => ?_) (fun _ => ?_)
  · refine .inr ⟨_, _, use_mut ⟨_, _, _, _, _, _, rfl, rfl, c_spec_l1Next c hc (q + 1) 3 (by omega) (by omega), rfl, ⟨rfl, rfl⟩⟩, ?_⟩
    refine .inr ⟨_, _, use_mut ⟨_, _, _, _, _, _, rfl, rfl, c_spec_l1Next c hc (q + 1 + 1) 4 (by omega) (by omega), rfl, ⟨rfl, rfl⟩⟩, ?_⟩
    refine .inr ⟨_, _, use_mut ⟨_, _, _, _, _, _, rfl, rfl, pick3 c hc (q + 1 + 1 + 1) 0 23 24 (by omega) (by omega), rfl, ⟨rfl, rfl⟩⟩, ?_⟩
    refine .inr ⟨_, _, use_mut ⟨_, _, _, _, _, _, rfl, rfl, pick2 c hc (q + 1 + 1 + 1 + 1) 5 4 (by omega) (by omega), rfl, ⟨rfl, rfl⟩⟩, ?_⟩
    refine .inr ⟨_, _, use_mut ⟨_, _, _, _, _, _, rfl, rfl, pick3 c hc (q + 1 + 1 + 1 + 1 + 1) 6 7 5 (by omega) (by omega), rfl, ⟨rfl, rfl⟩⟩, ?_⟩
    refine ask_intro ⟨by show (ln.length + 1) * 40 ≤ 140737488355328; omega, by show ln.length + 1 ≤ 9223372036854775807; omega, fun i hi => ?_⟩ ?_
    · obtain rfl : i = 0 := by omega
      rfl
    refine chk_intro (by kernel_rfl) ?_
    exact ⟨_, _, _, [], ⟨⟨ow, ln ++ [(⟨nx c (q + 1) 3, nx c (q + 1 + 1) 4, pk c (q + 1 + 1 + 1) [0, 23, 24], pk c (q + 1 + 1 + 1 + 1) [5, 4], pk c (q + 1 + 1 + 1 + 1 + 1) [6, 7, 5]⟩ : LaneM)], bl, pn⟩, q + 1 + 1 + 1 + 1 + 1 + 1, ⟨hfew.own, hfew.ins, by show (ln ++ [_]).length ≤ 5; rw [List.length_append]; show ln.length + 1 ≤ 5; omega, hfew.bls, hfew.pln⟩, by omega, by omega, rfl, rfl, rfl⟩, chk_intro (by kernel_rfl) ⟨⟨tellV_frzN rfl rfl rfl (DLe.refl _), tellV_frz rfl rfl rfl (DLe.l (by rw [List.length_append]; rfl) (fun i hi => app_lane1 ln (⟨nx c (q + 1) 3, nx c (q + 1 + 1) 4, pk c (q + 1 + 1 + 1) [0, 23, 24], pk c (q + 1 + 1 + 1 + 1) [5, 4], pk c (q + 1 + 1 + 1 + 1 + 1) [6, 7, 5]⟩ : LaneM) i hi)), tellV_frz rfl rfl rfl (DLe.refl _), tellV_frz rfl rfl rfl (DLe.refl _), trivial⟩, tellHp_box rfl rfl ⟨DLe.refl _, rfl, trivial⟩ tellHp_nil⟩⟩
  refine bsplit_intro (fun e => ?_) (fun _ => ?_)
  · refine .inr ⟨_, _, use_mut ⟨_, _, _, _, _, _, rfl, rfl, c_spec_l1Next c hc (q + 1) 3 (by omega) (by omega), rfl, ⟨rfl, rfl⟩⟩, ?_⟩
    refine .inr ⟨_, _, use_mut ⟨_, _, _, _, _, _, rfl, rfl, c_spec_l1Next c hc (q + 1 + 1) 4 (by omega) (by omega), rfl, ⟨rfl, rfl⟩⟩, ?_⟩
    refine ask_intro ⟨by show (bl.length + 2) * 16 ≤ 140737488355328; omega, by show bl.length + 2 ≤ 9223372036854775807; omega, fun i hi => ?_⟩ ?_
    · obtain rfl | rfl : i = 0 ∨ i = 1 := by omega
      · rfl
      · rfl
    refine chk_intro (by kernel_rfl) ?_
    exact ⟨_, _, _, [], ⟨⟨ow, ln, bl ++ [(⟨nx c (q + 1) 3, nx c (q + 1 + 1) 4⟩ : BellM), ⟨0, 1⟩], pn⟩, q + 1 + 1 + 1, ⟨hfew.own, hfew.ins, hfew.lns, by show (bl ++ _).length ≤ 4; rw [List.length_append]; show bl.length + 2 ≤ 4; omega, hfew.pln⟩, by omega, by omega, rfl, rfl, rfl⟩, chk_intro (by kernel_rfl) ⟨⟨tellV_frzN rfl rfl rfl (DLe.refl _), tellV_frz rfl rfl rfl (DLe.refl _), tellV_frz rfl rfl rfl (DLe.l (by rw [List.length_append]; rfl) (fun i hi => app_bell2 bl (⟨nx c (q + 1) 3, nx c (q + 1 + 1) 4⟩ : BellM) ⟨0, 1⟩ i hi)), tellV_frz rfl rfl rfl (DLe.refl _), trivial⟩, tellHp_box rfl rfl ⟨DLe.refl _, rfl, trivial⟩ tellHp_nil⟩⟩
  refine bsplit_intro (fun e => ?_) (fun _ => ?_)
  · refine .inr ⟨_, _, use_mut ⟨_, _, _, _, _, _, rfl, rfl, pick3 c hc (q + 1) 0 (-1) 3 (by omega) (by omega), rfl, ⟨rfl, rfl⟩⟩, ?_⟩
    refine .inr ⟨_, _, use_mut ⟨_, _, _, _, _, _, rfl, rfl, pick4 c hc (q + 1 + 1) 0 1 50 51 (by omega) (by omega), rfl, ⟨rfl, rfl⟩⟩, ?_⟩
    refine ask_intro ⟨by omega, by show (0 : Int) < (pn.length : Int); omega⟩ ?_
    refine ask_intro (by show 0 < pn.length; omega) ?_
    refine chk_intro (by kernel_rfl) ?_
    exact ⟨_, _, _, [], ⟨⟨ow, ln, bl, pn.set 0 (⟨pk c (q + 1) [0, -1, 3], pk c (q + 1 + 1) [0, 1, 50, 51]⟩ : SlotM)⟩, q + 1 + 1 + 1, ⟨hfew.own, hfew.ins, hfew.lns, hfew.bls, by show (pn.set 0 _).length ≤ 9; rw [List.length_set]; omega⟩, by omega, by omega, rfl, rfl, rfl⟩, chk_intro (by kernel_rfl) ⟨⟨tellV_frzN rfl rfl rfl (DLe.refl _), tellV_frz rfl rfl rfl (DLe.refl _), tellV_frz rfl rfl rfl (DLe.refl _), tellV_frz rfl rfl rfl (DLe.l (by rw [List.length_set]) (fun i hi => set_slot (l := pn) (z := ⟨pk c (q + 1) [0, -1, 3], pk c (q + 1 + 1) [0, 1, 50, 51]⟩) (by omega) i)), trivial⟩, tellHp_box rfl rfl ⟨DLe.refl _, rfl, trivial⟩ tellHp_nil⟩⟩
  refine bsplit_intro (fun e => ?_) (fun _ => ?_)
  · refine ask_intro ⟨rfl, by omega, by show (9 : Int) * 16 ≤ 140737488355328; omega, by omega⟩ ?_
    exact ⟨_, _, _, [], ⟨⟨ow, ln, bl, List.replicate 9 ⟨0, 0⟩⟩, q + 1, ⟨hfew.own, hfew.ins, hfew.lns, hfew.bls, by show (List.replicate 9 _).length ≤ 9; simp⟩, by omega, by omega, rfl, rfl, rfl⟩, chk_intro (by kernel_rfl) ⟨⟨tellV_frzN rfl rfl rfl (DLe.refl _), tellV_frz rfl rfl rfl (DLe.refl _), tellV_frz rfl rfl rfl (DLe.refl _), tellV_frz rfl rfl rfl (DLe.l (by simp) (fun i hi => rep_slot i hi)), trivial⟩, tellHp_box rfl rfl ⟨DLe.refl _, rfl, trivial⟩ tellHp_nil⟩⟩
  refine bsplit_intro (fun e => ?_) (fun _ => ?_)
  · refine ask_intro ⟨by omega, by show (0 : Int) < (ow.length : Int); omega⟩ ?_
    refine ask_intro (by show 0 < ow.length; omega) ?_
    exact ⟨_, _, _, [], ⟨⟨ow.set 0 [], ln, bl, pn⟩, q + 1, ⟨by show (ow.set 0 _).length ≤ 4; rw [List.length_set]; omega, hset [] (by simp), hfew.lns, hfew.bls, hfew.pln⟩, by omega, by omega, rfl, rfl, rfl⟩, chk_intro (by kernel_rfl) ⟨⟨tellV_frzH rfl rfl rfl (own_d7 _ ow h0), tellV_frz rfl rfl rfl (DLe.refl _), tellV_frz rfl rfl rfl (DLe.refl _), tellV_frz rfl rfl rfl (DLe.refl _), trivial⟩, tellHp_box rfl rfl ⟨DLe.refl _, rfl, trivial⟩ tellHp_nil⟩⟩
  refine bsplit_intro (fun e => ?_) (fun _ => ?_)
  · refine ask_intro ⟨rfl, by omega, by show (5 : Int) * 40 ≤ 140737488355328; omega, by omega⟩ ?_
    exact ⟨_, _, _, [], ⟨⟨ow, List.replicate 5 ⟨0, 0, 0, 0, 0⟩, bl, pn⟩, q + 1, ⟨hfew.own, hfew.ins, by show (List.replicate 5 _).length ≤ 5; simp, hfew.bls, hfew.pln⟩, by omega, by omega, rfl, rfl, rfl⟩, chk_intro (by kernel_rfl) ⟨⟨tellV_frzN rfl rfl rfl (DLe.refl _), tellV_frz rfl rfl rfl (DLe.l (by simp) (fun i hi => rep_lane i hi)), tellV_frz rfl rfl rfl (DLe.refl _), tellV_frz rfl rfl rfl (DLe.refl _), trivial⟩, tellHp_box rfl rfl ⟨DLe.refl _, rfl, trivial⟩ tellHp_nil⟩⟩
  exact ⟨_, _, _, [], ⟨⟨ow, ln, bl, pn⟩, q + 1, hfew, by omega, by omega, rfl, rfl, rfl⟩, chk_intro (by kernel_rfl) ⟨⟨tellV_frzN rfl rfl rfl (DLe.refl _), tellV_frz rfl rfl rfl (DLe.refl _), tellV_frz rfl rfl rfl (DLe.refl _), tellV_frz rfl rfl rfl (DLe.refl _), trivial⟩, tellHp_box rfl rfl ⟨DLe.refl _, rfl, trivial⟩ tellHp_nil⟩⟩
end Go.Proofs.YtojaakpnpdnbhaaGreatDoor.L

/- Codes of bytes, as arguments read as data. -/
set_option linter.unusedVariables false
set_option linter.unusedSimpArgs false
set_option maxRecDepth 100000
namespace Go.Proofs.YtojaakpnpdnbhaaGreatDoor.L
open Go.RowKit Go.ChangeShapes Go.WideShapes Go.ChangeAt
abbrev okByte (n : Int) : Prop := (Lit.int .u8 n).wf = true
theorem okByte_le {n : Int} (h : okByte n) : 0 ≤ n ∧ n ≤ 255 := by
  have h' : IntKind.u8.min ≤ n ∧ n ≤ IntKind.u8.max := by simpa [okByte, Lit.wf] using h
  have e : IntKind.u8.min = 0 := by decide
  have e2 : IntKind.u8.max = 255 := by decide
  rw [e, e2] at h'
  exact h'
abbrev okBytes (l : List Int) : Prop := l.length * 1 ≤ reachBytes ∧ ∀ x ∈ l, okByte x
theorem okBytes.code {l : List Int} (h : okBytes l) (hb : decide ((l.length : Int) > 1048576) = false) : okCode l := ⟨by simp at hb; omega, fun x hx => okByte_le (h.2 x hx)⟩
theorem reads_uint8 : ReadsT Tryz.prog 5 1 Int (fun n => [.v (.int .u8 n)]) okByte := ReadsT.int Tryz.underlying5 (by kernel_rfl)
theorem reads_bytes : ReadsT Tryz.prog 34 1 (List Int) (fun l => [bytesD l]) okBytes := ReadsT.slice reads_uint8 Tryz.underlying34 (by kernel_rfl) (by decide) 0 (by kernel_rfl)
end Go.Proofs.YtojaakpnpdnbhaaGreatDoor.L

/- What the functions compute that draw a machine: contracts. -/
set_option linter.unusedVariables false
set_option linter.unusedSimpArgs false
set_option maxRecDepth 100000
namespace Go.Proofs.YtojaakpnpdnbhaaGreatDoor.L
open Go.RowKit
structure HartM.drawn (m : HartM) : Prop where
  regs : m.regs.length = 16
  csr : m.csr.length = 11
  inp : m.inp.length ≤ 2
  out : m.out.length ≤ 40
abbrev hartN : List LV := [dv (.slice none 0 0), di 0, dv (.slice none 0 0), dv (.bool false), dv (.bool false), dv (.bool false), di 0, dv (.slice none 0 0), dv (.slice none 0 0)]
theorem setM_drawn {m : HartM} (h : m.drawn) (k w : Int) : (setM m k w).drawn := by
  obtain ⟨h1, h2, h3, h4⟩ := h
  unfold setM setCsrL
  (repeat' split) <;> exact ⟨by simpa using h1, by simpa using h2, by simpa using h3, by simpa using h4⟩
end Go.Proofs.YtojaakpnpdnbhaaGreatDoor.L

/- What the functions compute that draw a machine with something bent: contracts. -/
set_option linter.unusedVariables false
set_option linter.unusedSimpArgs false
set_option maxRecDepth 100000
namespace Go.Proofs.YtojaakpnpdnbhaaGreatDoor.L
open Go.RowKit
theorem drop_intsB (l : List Int) (k i : Nat) : intsF l (k + i) = intsF (l.drop k) i := by
  show [D.v (.int .i64 (l.getD (k + i) 0))] = [D.v (.int .i64 ((l.drop k).getD i 0))]
  simp [List.getD, List.getElem?_drop]
theorem HartM.drawn.small {m : HartM} (h : m.drawn) : m.small := by
  obtain ⟨h1, h2, h3, h4⟩ := h
  exact ⟨by omega, by omega, by omega, by omega⟩
end Go.Proofs.YtojaakpnpdnbhaaGreatDoor.L

/- What the functions compute that draw a machine and what is done to it: contracts. -/
set_option linter.unusedVariables false
set_option linter.unusedSimpArgs false
set_option maxRecDepth 100000
namespace Go.Proofs.YtojaakpnpdnbhaaGreatDoor.L
open Go.RowKit
abbrev hartSh (m : HartM) : RV1 := .agg [.sh (ints m.regs), .v (.int .i64 m.pc), .sh (ints m.csr), .v (.bool m.halted), .v (.bool m.waiting), .v (.bool m.rung), .v (.int .i64 m.done), .sh (ints m.inp), .sh (ints m.out)]
theorem c_laws_lwBig (c : List Int) (hc : c.length ≤ 9223372036854775807) : FnOK Tryz.prog 10 [.d (bytesD c)] (rb (decide ((c.length : Int) > 1048576))) := by
  refine fn_of lv10 Tryz.func10 rfl rfl (by kernel_rfl) rfl ?_
  exact ⟨⟨rfl, trivial⟩, rfl⟩
end Go.Proofs.YtojaakpnpdnbhaaGreatDoor.L

/- Texts of policies drawn: contracts. -/
set_option linter.unusedVariables false
set_option linter.unusedSimpArgs false
set_option maxRecDepth 100000
namespace Go.Proofs.YtojaakpnpdnbhaaGreatDoor.L
open Go.RowKit
theorem c_spec_ParsePolicyA (t : List UInt8) : FnOK Tryz.prog 5 [dT t] (prR (parsePol polFault t)) := by
  by_cases ht : t.length ≤ 1048576
  · exact c_spec_ParsePolicy t ht
  · have hsz := tx_size t
    have hV : parsePol polFault t = (2, 0, noPol) := by unfold parsePol; rw [if_pos (by omega)]
    rw [hV]
    refine fn_of lv5 Tryz.func5 rfl rfl (by kernel_rfl) rfl ?_
    refine bsplit_of_true (decide_eq_true (show ((tx t).size : Int) > 1000 by omega)) ?_
    exact ⟨⟨rfl, rfl, ⟨rfl, rfl⟩, ⟨rfl, rfl⟩, ⟨rfl, rfl⟩, ⟨rfl, rfl⟩, trivial⟩, rfl⟩
theorem c_impl_ParsePolicyA (t : List UInt8) : FnOK Tryz.prog 6 [dT t] (prR (parsePol polFault t)) := by
  by_cases ht : t.length ≤ 1048576
  · exact c_impl_ParsePolicy t ht
  · have hsz := tx_size t
    have hV : parsePol polFault t = (2, 0, noPol) := by unfold parsePol; rw [if_pos (by omega)]
    rw [hV]
    refine fn_of lv6 Tryz.func6 rfl rfl (by kernel_rfl) rfl ?_
    refine bsplit_of_true (decide_eq_true (show ((tx t).size : Int) > 1000 by omega)) ?_
    exact ⟨⟨rfl, rfl, ⟨rfl, rfl⟩, ⟨rfl, rfl⟩, ⟨rfl, rfl⟩, ⟨rfl, rfl⟩, trivial⟩, rfl⟩
theorem polT_len {x : PolM} (h : polFault x = 0) : (polT x).length ≤ 1600000000000 := by
  have hp := pol_fewT h
  have hfo : ∀ l ∈ x.own, (fOwn l).length ≤ 50000000000 := fun l hl => lineT_few _ (by decide) (hp.row l hl).2.2 (by have := (hp.row l hl).2.1; omega)
  have hlns : ∀ m ∈ x.lns, (fLane m).length ≤ 50000000000 := fun m hm => lineT_few _ (by decide) (hp.lane m hm) (by simp)
  have hbls : ∀ m ∈ x.bls, (fBell m).length ≤ 50000000000 := fun m hm => lineT_few _ (by decide) (hp.bell m hm) (by simp)
  have hpln : ∀ m ∈ x.pln, (fSlot m).length ≤ 50000000000 := fun m hm => lineT_few _ (by decide) (hp.slot m hm) (by simp)
  have e1 := flat_len fOwn x.own x.own.length hfo (by have := hp.own; omega)
  have e2 := flat_len fLane x.lns x.lns.length hlns (by have := hp.lns; omega)
  have e3 := flat_len fBell x.bls x.bls.length hbls (by have := hp.bls; omega)
  have e4 := flat_len fSlot x.pln x.pln.length hpln (by have := hp.pln; omega)
  rw [List.take_length] at e1 e2 e3 e4
  unfold polT
  simp only [List.length_append]
  omega
theorem formatPolicy_len (x : PolM) : (formatPolicy x).2.length ≤ 1600000000000 := by
  unfold formatPolicy
  split
  · rename_i h
    exact polT_len h
  · exact Nat.zero_le _
theorem some_text (b : ByteArray) : ∃ t : List UInt8, Value.string b = Value.string (tx t) ∧ t.length = b.size := by
  refine ⟨b.data.toList, ?_, ?_⟩
  · have e : tx b.data.toList = b := by apply ByteArray.ext; simp [tx]
    rw [e]
  · show b.data.toList.length = b.data.size
    simp
set_option maxHeartbeats 3200000 in
theorem c_spec_l6Turn (c : List Int) (hc : okCode c) (p : Int) (hp : 0 ≤ p) (hp2 : p ≤ 109951162) (t : List UInt8) (ht : t.length ≤ 2000000000000) : MutS Tryz.prog 29 [.ptr 0 0, dT t] 1 [(0, srcBox c p)]
    (fun lv m' hp1 => ∃ (t' : List UInt8) (q : Int), t'.length ≤ 2000000000003 ∧ p ≤ q ∧ q ≤ p + 3 ∧ lv = dT t' ∧ m' = 1 ∧ hp1 = [(0, srcBox c q)]) := by
  have hsz := tx_size t
  have hem := emp_ne t
  by_cases h0 : t = []
  · have he : ((tx t).toList == (ByteArray.mk #[]).toList) = true := by
      rw [decide_eq_false (fun e => e h0)] at hem
      simpa using hem
    have h4 := nx_in (c := c) hc (p := p) (n := 4) (by omega) (by omega)
    have c4 := c_spec_l1Next c hc p 4 (by omega) (by omega)
    by_cases hv0 : nx c p 4 = 0
    · rw [hv0] at c4
      refine mutS_fn_of lv29 Tryz.func29 rfl rfl (by kernel_rfl) rfl ?_
      refine bsplit_of_true he ?_
      refine .inr ⟨rfl, use_mut ⟨_, _, _, _, _, _, rfl, rfl, c4, rfl, ?_⟩⟩
      refine ask_intro ⟨by decide, by decide⟩ ?_
      refine ask_intro (by decide) ?_
      exact ⟨_, _, _, [], ⟨[], p + 1, by simp, by omega, by omega, rfl, rfl, rfl⟩, chk_intro (by kernel_rfl) ⟨rfl, tellHp_box rfl rfl ⟨DLe.refl _, rfl, trivial⟩ tellHp_nil⟩⟩
    by_cases hv1 : nx c p 4 = 1
    · rw [hv1] at c4
      refine mutS_fn_of lv29 Tryz.func29 rfl rfl (by kernel_rfl) rfl ?_
      refine bsplit_of_true he ?_
      refine .inr ⟨rfl, use_mut ⟨_, _, _, _, _, _, rfl, rfl, c4, rfl, ?_⟩⟩
      refine ask_intro ⟨by decide, by decide⟩ ?_
      refine ask_intro (by decide) ?_
      exact ⟨_, _, _, [], ⟨[32], p + 1, by simp, by omega, by omega, rfl, rfl, rfl⟩, chk_intro (by kernel_rfl) ⟨rfl, tellHp_box rfl rfl ⟨DLe.refl _, rfl, trivial⟩ tellHp_nil⟩⟩
    by_cases hv2 : nx c p 4 = 2
    · rw [hv2] at c4
      refine mutS_fn_of lv29 Tryz.func29 rfl rfl (by kernel_rfl) rfl ?_
      refine bsplit_of_true he ?_
      refine .inr ⟨rfl, use_mut ⟨_, _, _, _, _, _, rfl, rfl, c4, rfl, ?_⟩⟩
      refine ask_intro ⟨by decide, by decide⟩ ?_
      refine ask_intro (by decide) ?_
      exact ⟨_, _, _, [], ⟨[10], p + 1, by simp, by omega, by omega, rfl, rfl, rfl⟩, chk_intro (by kernel_rfl) ⟨rfl, tellHp_box rfl rfl ⟨DLe.refl _, rfl, trivial⟩ tellHp_nil⟩⟩
    have hv3 : nx c p 4 = 3 := by omega
    rw [hv3] at c4
    refine mutS_fn_of lv29 Tryz.func29 rfl rfl (by kernel_rfl) rfl ?_
    refine bsplit_of_true he ?_
    refine .inr ⟨rfl, use_mut ⟨_, _, _, _, _, _, rfl, rfl, c4, rfl, ?_⟩⟩
    refine ask_intro ⟨by decide, by decide⟩ ?_
    refine ask_intro (by decide) ?_
    exact ⟨_, _, _, [], ⟨[111, 119, 110], p + 1, by simp, by omega, by omega, rfl, rfl, rfl⟩, chk_intro (by kernel_rfl) ⟨rfl, tellHp_box rfl rfl ⟨DLe.refl _, rfl, trivial⟩ tellHp_nil⟩⟩
  have he : ((tx t).toList == (ByteArray.mk #[]).toList) = false := by
    rw [decide_eq_true h0] at hem
    simpa using hem
  have htl : 1 ≤ t.length := List.length_pos_iff.2 h0
  have hI := nx_in (c := c) hc (p := p) (n := ((tx t).size : Int)) (by omega) (by omega)
  have cI := c_spec_l1Next c hc p ((tx t).size : Int) (by omega) (by omega)
  have c3 := c_spec_l1Next c hc (p + 1) 3 (by omega) (by omega)
  generalize nx c p ((tx t).size : Int) = i at *
  have hwi : IntKind.i64.wrap (i + 1) = i + 1 := wrap_i64 _ (by omega) (by omega)
  have s0 : ((tx t).extract (0 : Int).toNat i.toNat).size ≤ t.length := by rw [ByteArray.size_extract]; omega
  have s1 : ((tx t).extract (IntKind.i64.wrap (i + 1)).toNat ((tx t).size : Int).toNat).size ≤ t.length := by rw [ByteArray.size_extract]; omega
  have s2 : ((tx t).extract i.toNat ((tx t).size : Int).toNat).size ≤ t.length := by rw [ByteArray.size_extract]; omega
  have s01 : ((tx t).extract (0 : Int).toNat i.toNat).size + ((tx t).extract (IntKind.i64.wrap (i + 1)).toNat ((tx t).size : Int).toNat).size ≤ t.length := by rw [ByteArray.size_extract, ByteArray.size_extract]; omega
  have s02 : ((tx t).extract (0 : Int).toNat i.toNat).size + ((tx t).extract i.toNat ((tx t).size : Int).toNat).size ≤ t.length := by rw [ByteArray.size_extract, ByteArray.size_extract]; omega
  by_cases e0 : (nx c (p + 1) 3 == 0) = true
  · obtain ⟨t', ev, hl⟩ := some_text ((tx t).extract (0 : Int).toNat i.toNat ++ (tx t).extract (IntKind.i64.wrap (i + 1)).toNat ((tx t).size : Int).toNat)
    rw [ByteArray.size_append] at hl
    refine mutS_fn_of lv29 Tryz.func29 rfl rfl (by kernel_rfl) rfl ?_
    refine bsplit_of_false he ?_
    refine .inr ⟨rfl, use_mut ⟨_, _, _, _, _, _, rfl, rfl, cI, rfl, ?_⟩⟩
    refine .inr ⟨rfl, use_mut ⟨_, _, _, _, _, _, rfl, rfl, c3, rfl, ?_⟩⟩
    refine bsplit_of_true e0 ?_
    refine ask_intro ⟨by decide, by show (0 : Int) ≤ i; omega, by show i ≤ ((tx t).size : Int); omega⟩ ?_
    refine ask_intro ⟨by show 0 ≤ IntKind.i64.wrap (i + 1); omega, by show IntKind.i64.wrap (i + 1) ≤ ((tx t).size : Int); omega, by show ((tx t).size : Int) ≤ ((tx t).size : Int); omega⟩ ?_
    refine ask_intro (by show (((((tx t).extract (0 : Int).toNat i.toNat).size + ((tx t).extract (IntKind.i64.wrap (i + 1)).toNat ((tx t).size : Int).toNat).size : Nat)) : Int) ≤ 9223372036854775807; omega) ?_
    refine chk_intro (by kernel_rfl) ?_
    exact ⟨_, _, _, [], ⟨t', p + 1 + 1, by omega, by omega, by omega, rfl, rfl, rfl⟩, chk_intro (by kernel_rfl) ⟨ev, tellHp_box rfl rfl ⟨DLe.refl _, rfl, trivial⟩ tellHp_nil⟩⟩
  have e0 : (nx c (p + 1) 3 == 0) = false := by simpa using e0
  by_cases e1 : (nx c (p + 1) 3 == 1) = true
  · have h5 := nx_in (c := c) hc (p := p + 1 + 1) (n := 5) (by omega) (by omega)
    have c5 := c_spec_l1Next c hc (p + 1 + 1) 5 (by omega) (by omega)
    by_cases hv0 : nx c (p + 1 + 1) 5 = 0
    · rw [hv0] at c5
      obtain ⟨t', ev, hl⟩ := some_text (((tx t).extract (0 : Int).toNat i.toNat ++ ⟨#[32]⟩) ++ (tx t).extract i.toNat ((tx t).size : Int).toNat)
      have z1 : ((tx t).extract (0 : Int).toNat i.toNat ++ ⟨#[32]⟩).size = ((tx t).extract (0 : Int).toNat i.toNat).size + 1 := by rw [ByteArray.size_append]; rfl
      rw [ByteArray.size_append, z1] at hl
      refine mutS_fn_of lv29 Tryz.func29 rfl rfl (by kernel_rfl) rfl ?_
      refine bsplit_of_false he ?_
      refine .inr ⟨rfl, use_mut ⟨_, _, _, _, _, _, rfl, rfl, cI, rfl, ?_⟩⟩
      refine .inr ⟨rfl, use_mut ⟨_, _, _, _, _, _, rfl, rfl, c3, rfl, ?_⟩⟩
      refine bsplit_of_false e0 ?_
      refine bsplit_of_true e1 ?_
      refine ask_intro ⟨by decide, by show (0 : Int) ≤ i; omega, by show i ≤ ((tx t).size : Int); omega⟩ ?_
      refine .inr ⟨_, _, use_mut ⟨_, _, _, _, _, _, rfl, rfl, c5, rfl, ⟨rfl, rfl⟩⟩, ?_⟩
      refine ask_intro ⟨by decide, by decide⟩ ?_
      refine ask_intro (by decide) ?_
      refine ask_intro (by show (((((tx t).extract (0 : Int).toNat i.toNat).size + 1 : Nat)) : Int) ≤ 9223372036854775807; omega) ?_
      refine ask_intro ⟨by show (0 : Int) ≤ i; omega, by show i ≤ ((tx t).size : Int); omega, by show ((tx t).size : Int) ≤ ((tx t).size : Int); omega⟩ ?_
      refine ask_intro (by show (((((tx t).extract (0 : Int).toNat i.toNat ++ ⟨#[32]⟩).size + ((tx t).extract i.toNat ((tx t).size : Int).toNat).size : Nat)) : Int) ≤ 9223372036854775807; rw [z1]; omega) ?_
      refine chk_intro (by kernel_rfl) ?_
      exact ⟨_, _, _, [], ⟨t', p + 1 + 1 + 1, by omega, by omega, by omega, rfl, rfl, rfl⟩, chk_intro (by kernel_rfl) ⟨ev, tellHp_box rfl rfl ⟨DLe.refl _, rfl, trivial⟩ tellHp_nil⟩⟩
    by_cases hv1 : nx c (p + 1 + 1) 5 = 1
    · rw [hv1] at c5
      obtain ⟨t', ev, hl⟩ := some_text (((tx t).extract (0 : Int).toNat i.toNat ++ ⟨#[10]⟩) ++ (tx t).extract i.toNat ((tx t).size : Int).toNat)
      have z1 : ((tx t).extract (0 : Int).toNat i.toNat ++ ⟨#[10]⟩).size = ((tx t).extract (0 : Int).toNat i.toNat).size + 1 := by rw [ByteArray.size_append]; rfl
      rw [ByteArray.size_append, z1] at hl
      refine mutS_fn_of lv29 Tryz.func29 rfl rfl (by kernel_rfl) rfl ?_
      refine bsplit_of_false he ?_
      refine .inr ⟨rfl, use_mut ⟨_, _, _, _, _, _, rfl, rfl, cI, rfl, ?_⟩⟩
      refine .inr ⟨rfl, use_mut ⟨_, _, _, _, _, _, rfl, rfl, c3, rfl, ?_⟩⟩
      refine bsplit_of_false e0 ?_
      refine bsplit_of_true e1 ?_
      refine ask_intro ⟨by decide, by show (0 : Int) ≤ i; omega, by show i ≤ ((tx t).size : Int); omega⟩ ?_
      refine .inr ⟨_, _, use_mut ⟨_, _, _, _, _, _, rfl, rfl, c5, rfl, ⟨rfl, rfl⟩⟩, ?_⟩
      refine ask_intro ⟨by decide, by decide⟩ ?_
      refine ask_intro (by decide) ?_
      refine ask_intro (by show (((((tx t).extract (0 : Int).toNat i.toNat).size + 1 : Nat)) : Int) ≤ 9223372036854775807; omega) ?_
      refine ask_intro ⟨by show (0 : Int) ≤ i; omega, by show i ≤ ((tx t).size : Int); omega, by show ((tx t).size : Int) ≤ ((tx t).size : Int); omega⟩ ?_
      refine ask_intro (by show (((((tx t).extract (0 : Int).toNat i.toNat ++ ⟨#[10]⟩).size + ((tx t).extract i.toNat ((tx t).size : Int).toNat).size : Nat)) : Int) ≤ 9223372036854775807; rw [z1]; omega) ?_
      refine chk_intro (by kernel_rfl) ?_
      exact ⟨_, _, _, [], ⟨t', p + 1 + 1 + 1, by omega, by omega, by omega, rfl, rfl, rfl⟩, chk_intro (by kernel_rfl) ⟨ev, tellHp_box rfl rfl ⟨DLe.refl _, rfl, trivial⟩ tellHp_nil⟩⟩
    by_cases hv2 : nx c (p + 1 + 1) 5 = 2
    · rw [hv2] at c5
      obtain ⟨t', ev, hl⟩ := some_text (((tx t).extract (0 : Int).toNat i.toNat ++ ⟨#[48]⟩) ++ (tx t).extract i.toNat ((tx t).size : Int).toNat)
      have z1 : ((tx t).extract (0 : Int).toNat i.toNat ++ ⟨#[48]⟩).size = ((tx t).extract (0 : Int).toNat i.toNat).size + 1 := by rw [ByteArray.size_append]; rfl
      rw [ByteArray.size_append, z1] at hl
      refine mutS_fn_of lv29 Tryz.func29 rfl rfl (by kernel_rfl) rfl ?_
      refine bsplit_of_false he ?_
      refine .inr ⟨rfl, use_mut ⟨_, _, _, _, _, _, rfl, rfl, cI, rfl, ?_⟩⟩
      refine .inr ⟨rfl, use_mut ⟨_, _, _, _, _, _, rfl, rfl, c3, rfl, ?_⟩⟩
      refine bsplit_of_false e0 ?_
      refine bsplit_of_true e1 ?_
      refine ask_intro ⟨by decide, by show (0 : Int) ≤ i; omega, by show i ≤ ((tx t).size : Int); omega⟩ ?_
      refine .inr ⟨_, _, use_mut ⟨_, _, _, _, _, _, rfl, rfl, c5, rfl, ⟨rfl, rfl⟩⟩, ?_⟩
      refine ask_intro ⟨by decide, by decide⟩ ?_
      refine ask_intro (by decide) ?_
      refine ask_intro (by show (((((tx t).extract (0 : Int).toNat i.toNat).size + 1 : Nat)) : Int) ≤ 9223372036854775807; omega) ?_
      refine ask_intro ⟨by show (0 : Int) ≤ i; omega, by show i ≤ ((tx t).size : Int); omega, by show ((tx t).size : Int) ≤ ((tx t).size : Int); omega⟩ ?_
      refine ask_intro (by show (((((tx t).extract (0 : Int).toNat i.toNat ++ ⟨#[48]⟩).size + ((tx t).extract i.toNat ((tx t).size : Int).toNat).size : Nat)) : Int) ≤ 9223372036854775807; rw [z1]; omega) ?_
      refine chk_intro (by kernel_rfl) ?_
      exact ⟨_, _, _, [], ⟨t', p + 1 + 1 + 1, by omega, by omega, by omega, rfl, rfl, rfl⟩, chk_intro (by kernel_rfl) ⟨ev, tellHp_box rfl rfl ⟨DLe.refl _, rfl, trivial⟩ tellHp_nil⟩⟩
    by_cases hv3 : nx c (p + 1 + 1) 5 = 3
    · rw [hv3] at c5
      obtain ⟨t', ev, hl⟩ := some_text (((tx t).extract (0 : Int).toNat i.toNat ++ ⟨#[57]⟩) ++ (tx t).extract i.toNat ((tx t).size : Int).toNat)
      have z1 : ((tx t).extract (0 : Int).toNat i.toNat ++ ⟨#[57]⟩).size = ((tx t).extract (0 : Int).toNat i.toNat).size + 1 := by rw [ByteArray.size_append]; rfl
      rw [ByteArray.size_append, z1] at hl
      refine mutS_fn_of lv29 Tryz.func29 rfl rfl (by kernel_rfl) rfl ?_
      refine bsplit_of_false he ?_
      refine .inr ⟨rfl, use_mut ⟨_, _, _, _, _, _, rfl, rfl, cI, rfl, ?_⟩⟩
      refine .inr ⟨rfl, use_mut ⟨_, _, _, _, _, _, rfl, rfl, c3, rfl, ?_⟩⟩
      refine bsplit_of_false e0 ?_
      refine bsplit_of_true e1 ?_
      refine ask_intro ⟨by decide, by show (0 : Int) ≤ i; omega, by show i ≤ ((tx t).size : Int); omega⟩ ?_
      refine .inr ⟨_, _, use_mut ⟨_, _, _, _, _, _, rfl, rfl, c5, rfl, ⟨rfl, rfl⟩⟩, ?_⟩
      refine ask_intro ⟨by decide, by decide⟩ ?_
      refine ask_intro (by decide) ?_
      refine ask_intro (by show (((((tx t).extract (0 : Int).toNat i.toNat).size + 1 : Nat)) : Int) ≤ 9223372036854775807; omega) ?_
      refine ask_intro ⟨by show (0 : Int) ≤ i; omega, by show i ≤ ((tx t).size : Int); omega, by show ((tx t).size : Int) ≤ ((tx t).size : Int); omega⟩ ?_
      refine ask_intro (by show (((((tx t).extract (0 : Int).toNat i.toNat ++ ⟨#[57]⟩).size + ((tx t).extract i.toNat ((tx t).size : Int).toNat).size : Nat)) : Int) ≤ 9223372036854775807; rw [z1]; omega) ?_
      refine chk_intro (by kernel_rfl) ?_
      exact ⟨_, _, _, [], ⟨t', p + 1 + 1 + 1, by omega, by omega, by omega, rfl, rfl, rfl⟩, chk_intro (by kernel_rfl) ⟨ev, tellHp_box rfl rfl ⟨DLe.refl _, rfl, trivial⟩ tellHp_nil⟩⟩
    have hv4 : nx c (p + 1 + 1) 5 = 4 := by omega
    rw [hv4] at c5
    obtain ⟨t', ev, hl⟩ := some_text (((tx t).extract (0 : Int).toNat i.toNat ++ ⟨#[120]⟩) ++ (tx t).extract i.toNat ((tx t).size : Int).toNat)
    have z1 : ((tx t).extract (0 : Int).toNat i.toNat ++ ⟨#[120]⟩).size = ((tx t).extract (0 : Int).toNat i.toNat).size + 1 := by rw [ByteArray.size_append]; rfl
    rw [ByteArray.size_append, z1] at hl
    refine mutS_fn_of lv29 Tryz.func29 rfl rfl (by kernel_rfl) rfl ?_
    refine bsplit_of_false he ?_
    refine .inr ⟨rfl, use_mut ⟨_, _, _, _, _, _, rfl, rfl, cI, rfl, ?_⟩⟩
    refine .inr ⟨rfl, use_mut ⟨_, _, _, _, _, _, rfl, rfl, c3, rfl, ?_⟩⟩
    refine bsplit_of_false e0 ?_
    refine bsplit_of_true e1 ?_
    refine ask_intro ⟨by decide, by show (0 : Int) ≤ i; omega, by show i ≤ ((tx t).size : Int); omega⟩ ?_
    refine .inr ⟨_, _, use_mut ⟨_, _, _, _, _, _, rfl, rfl, c5, rfl, ⟨rfl, rfl⟩⟩, ?_⟩
    refine ask_intro ⟨by decide, by decide⟩ ?_
    refine ask_intro (by decide) ?_
    refine ask_intro (by show (((((tx t).extract (0 : Int).toNat i.toNat).size + 1 : Nat)) : Int) ≤ 9223372036854775807; omega) ?_
    refine ask_intro ⟨by show (0 : Int) ≤ i; omega, by show i ≤ ((tx t).size : Int); omega, by show ((tx t).size : Int) ≤ ((tx t).size : Int); omega⟩ ?_
    refine ask_intro (by show (((((tx t).extract (0 : Int).toNat i.toNat ++ ⟨#[120]⟩).size + ((tx t).extract i.toNat ((tx t).size : Int).toNat).size : Nat)) : Int) ≤ 9223372036854775807; rw [z1]; omega) ?_
    refine chk_intro (by kernel_rfl) ?_
    exact ⟨_, _, _, [], ⟨t', p + 1 + 1 + 1, by omega, by omega, by omega, rfl, rfl, rfl⟩, chk_intro (by kernel_rfl) ⟨ev, tellHp_box rfl rfl ⟨DLe.refl _, rfl, trivial⟩ tellHp_nil⟩⟩
  have e1 : (nx c (p + 1) 3 == 1) = false := by simpa using e1
  obtain ⟨t', ev, hl⟩ := some_text ((tx t).extract (0 : Int).toNat i.toNat)
  refine mutS_fn_of lv29 Tryz.func29 rfl rfl (by kernel_rfl) rfl ?_
  refine bsplit_of_false he ?_
  refine .inr ⟨rfl, use_mut ⟨_, _, _, _, _, _, rfl, rfl, cI, rfl, ?_⟩⟩
  refine .inr ⟨rfl, use_mut ⟨_, _, _, _, _, _, rfl, rfl, c3, rfl, ?_⟩⟩
  refine bsplit_of_false e0 ?_
  refine bsplit_of_false e1 ?_
  refine ask_intro ⟨by decide, by show (0 : Int) ≤ i; omega, by show i ≤ ((tx t).size : Int); omega⟩ ?_
  exact ⟨_, _, _, [], ⟨t', p + 1 + 1, by omega, by omega, by omega, rfl, rfl, rfl⟩, chk_intro (by kernel_rfl) ⟨ev, tellHp_box rfl rfl ⟨DLe.refl _, rfl, trivial⟩ tellHp_nil⟩⟩
theorem c_spec_DrawParsePolicy (c : List Int) (hc : okCode c) : FnS Tryz.prog 11 [.d (bytesD c)] (fun r => ∃ t : List UInt8, r = rT t) := by
  refine fnS_fn_of lv11 Tryz.func11 rfl rfl (by kernel_rfl) rfl ?_
  refine .inr ⟨rfl, use_mut ⟨_, _, _, _, _, _, rfl, rfl, c_spec_l1Source c, rfl, ?_⟩⟩
  refine .inr ⟨rfl, use_mutS ⟨_, _, _, _, rfl, rfl, c_spec_l6Bent c hc 0 (by omega) (by omega), rfl, ?_⟩⟩
  rintro _ _ _ ⟨x, q, hx, hq1, hq2, rfl, rfl, rfl⟩
  refine ⟨rfl, ?_⟩
  have cf := c_spec_FormatPolicy x hx.small
  have hlen := formatPolicy_len x
  have cc := c_spec_l1Chance c hc q 3 (by omega) (by omega)
  refine .inl ⟨_, _, rfl, cf, rfl, ?_⟩
  refine .inr ⟨rfl, use_mut ⟨_, _, _, _, _, _, rfl, rfl, cc, rfl, ?_⟩⟩
  refine bsplit_intro (fun h => ?_) (fun h => ?_)
  · refine .inr ⟨rfl, use_mutS ⟨_, _, _, _, rfl, rfl, c_spec_l6Turn c hc (q + 1) (by omega) (by omega) (formatPolicy x).2 (by omega), rfl, ?_⟩⟩
    rintro _ _ _ ⟨t', q2, hl, hq3, hq4, rfl, rfl, rfl⟩
    refine ⟨rfl, ?_⟩
    exact ⟨_, ⟨t', rfl⟩, ⟨rfl, trivial⟩, rfl⟩
  · exact ⟨_, ⟨(formatPolicy x).2, rfl⟩, ⟨rfl, trivial⟩, rfl⟩
abbrev polShP (x : PolM) : RV1 := .agg [.sh (owns x.own), .sh (lanes x.lns), .sh (bells x.bls), .sh (slots x.pln)]
theorem c_spec_DrawFormatPolicy (c : List Int) (hc : okCode c) : FnS Tryz.prog 13 [.d (bytesD c)] (fun r => ∃ x : PolM, x.few ∧ r = .r (polShP x)) := by
  refine fnS_fn_of lv13 Tryz.func13 rfl rfl (by kernel_rfl) rfl ?_
  refine .inr ⟨rfl, use_mut ⟨_, _, _, _, _, _, rfl, rfl, c_spec_l1Source c, rfl, ?_⟩⟩
  refine .inr ⟨rfl, use_mutS ⟨_, _, _, _, rfl, rfl, c_spec_l6Bent c hc 0 (by omega) (by omega), rfl, ?_⟩⟩
  rintro _ _ _ ⟨x, q, hx, hq1, hq2, rfl, rfl, rfl⟩
  refine ⟨rfl, ?_⟩
  exact ⟨_, ⟨x, hx, rfl⟩, ⟨DLe.refl _, DLe.refl _, DLe.refl _, DLe.refl _, trivial⟩, rfl⟩
end Go.Proofs.YtojaakpnpdnbhaaGreatDoor.L

/- The law FnPolicies answers true. -/
set_option linter.unusedVariables false
set_option linter.unusedSimpArgs false
set_option maxRecDepth 100000
namespace Go.Proofs.YtojaakpnpdnbhaaGreatDoor.L
open Go.RowKit Go.ChangeShapes Go.WideShapes Go.ChangeAt
set_option maxHeartbeats 6400000 in
theorem c_laws_FnPolicies (c : List Int) (ho : okBytes c) : FnOK Tryz.prog 4 [.d (bytesD c)] (rb true) := by
  have hrb := reach_eq
  have hlen : c.length * 1 ≤ 140737488351232 := by have := ho.1; omega
  refine fn_of lv4 Tryz.func4 rfl rfl (by kernel_rfl) rfl ?_
  refine .inl ⟨_, _, rfl, c_laws_lwBig c (by omega), rfl, ?_⟩
  refine bsplit_intro (fun h => ?_) (fun h => ?_)
  · exact ⟨⟨rfl, trivial⟩, rfl⟩
  have hc := ho.code h
  refine .inr ⟨rfl, use_fn ⟨_, _, rfl, c_spec_DrawParsePolicy c hc, ?_⟩⟩
  rintro _ ⟨t, rfl⟩
  refine ⟨rfl, ?_⟩
  have cp1 := c_impl_ParsePolicyA t
  have cp2 := c_spec_ParsePolicyA t
  have hfew := parsePol_few t
  have hback := @parse_format t
  generalize parsePol polFault t = q at *
  have t1 : (!((tx t).toList == (tx t).toList)) = false := by simp
  have t2 : (q.1 != q.1) = false := by simp
  by_cases hq : q.1 = 0
  · have cf0 := c_impl_FormatPolicy q.2.2 hfew.2
    rw [hback hq] at cf0
    have a1 : (q.1 == 0) = true := by rw [hq]; rfl
    have a2 : (q.1 != 0) = false := by rw [hq]; rfl
    refine .inl ⟨_, _, rfl, cp1, rfl, ?_⟩
    refine bsplit_of_true a1 ?_
    repeat' (first | refine bsplit_true ?_ | refine bsplit_false ?_)
    refine .inl ⟨_, _, rfl, cf0, rfl, ?_⟩
    repeat' (first | refine bsplit_of_true a1 ?_ | refine bsplit_of_false a2 ?_ | refine bsplit_of_false t1 ?_ | refine bsplit_of_false t2 ?_ | refine bsplit_true ?_ | refine bsplit_false ?_ | refine chk_intro (by kernel_rfl) ?_)
    refine .inr ⟨rfl, use_fn ⟨_, _, rfl, c_spec_DrawFormatPolicy c hc, ?_⟩⟩
    rintro _ ⟨x, hx, rfl⟩
    refine ⟨rfl, ?_⟩
    have cf := c_impl_FormatPolicy x hx.small
    by_cases hpf : polFault x = 0
    rotate_left
    · have cp := c_spec_PolicyFault x hx.small
      have e : formatPolicy x = (polFault x, []) := by unfold formatPolicy; rw [if_neg hpf]
      rw [e] at cf
      refine .inl ⟨_, _, rfl, cf, rfl, ?_⟩
      refine bsplit_of_true (show (polFault x != 0) = true by rw [bne_iff_ne]; exact hpf) ?_
      refine .inl ⟨_, _, rfl, cp, rfl, ?_⟩
      refine chk_intro (by kernel_rfl) ?_
      exact ⟨⟨congrArg Value.bool (show (polFault x == polFault x) = true by simp), trivial⟩, rfl⟩
    have e : formatPolicy x = (0, polT x) := by unfold formatPolicy; rw [if_pos hpf]
    have cr := c_impl_ParsePolicyA (polT x)
    have hzt := tx_size (polT x)
    have cf2 := cf
    rw [e] at cf cf2
    by_cases hl : 1000 < (polT x).length
    · have e2 : parsePol polFault (polT x) = (2, 0, noPol) := by unfold parsePol; rw [if_pos hl]
      rw [e2] at cr
      refine .inl ⟨_, _, rfl, cf, rfl, ?_⟩
      repeat' (first | refine bsplit_true ?_ | refine bsplit_false ?_)
      refine .inl ⟨_, _, rfl, cr, rfl, ?_⟩
      refine bsplit_of_true (decide_eq_true (show ((tx (polT x)).size : Int) > 1000 by omega)) ?_
      exact ⟨⟨rfl, trivial⟩, rfl⟩
    rw [format_parse hpf hl] at cr
    have b1 : ((tx (polT x)).toList == (tx (polT x)).toList) = true := by simp
    have b2 : ((x.own.length : Int) == (x.own.length : Int)) = true := by simp
    refine .inl ⟨_, _, rfl, cf, rfl, ?_⟩
    repeat' (first | refine bsplit_true ?_ | refine bsplit_false ?_)
    refine .inl ⟨_, _, rfl, cr, rfl, ?_⟩
    refine bsplit_of_false (decide_eq_false (show ¬ ((tx (polT x)).size : Int) > 1000 by omega)) ?_
    repeat' (first | refine bsplit_true ?_ | refine bsplit_false ?_)
    refine .inl ⟨_, _, rfl, cf2, rfl, ?_⟩
    repeat' (first | refine bsplit_of_true b1 ?_ | refine bsplit_of_true b2 ?_ | refine bsplit_true ?_ | refine bsplit_false ?_ | refine ask_intro trivial ?_)
    refine chk_intro (by kernel_rfl) ?_
    exact ⟨⟨congrArg Value.bool (show ((x.pln.length : Int) == (x.pln.length : Int)) = true by simp), trivial⟩, rfl⟩
  · have a1 : (q.1 == 0) = false := by rw [beq_eq_false_iff_ne]; exact hq
    have a2 : (q.1 != 0) = true := by rw [bne_iff_ne]; exact hq
    refine .inl ⟨_, _, rfl, cp1, rfl, ?_⟩
    refine bsplit_of_false a1 ?_
    repeat' (first | refine bsplit_of_false a1 ?_ | refine bsplit_of_true a2 ?_ | refine bsplit_true ?_ | refine bsplit_false ?_)
    refine .inl ⟨_, _, rfl, cp2, rfl, ?_⟩
    repeat' (first | refine bsplit_of_false a1 ?_ | refine bsplit_of_true a2 ?_ | refine bsplit_of_false t2 ?_ | refine bsplit_true ?_ | refine bsplit_false ?_ | refine chk_intro (by kernel_rfl) ?_)
    refine .inr ⟨rfl, use_fn ⟨_, _, rfl, c_spec_DrawFormatPolicy c hc, ?_⟩⟩
    rintro _ ⟨x, hx, rfl⟩
    refine ⟨rfl, ?_⟩
    have cf := c_impl_FormatPolicy x hx.small
    by_cases hpf : polFault x = 0
    rotate_left
    · have cp := c_spec_PolicyFault x hx.small
      have e : formatPolicy x = (polFault x, []) := by unfold formatPolicy; rw [if_neg hpf]
      rw [e] at cf
      refine .inl ⟨_, _, rfl, cf, rfl, ?_⟩
      refine bsplit_of_true (show (polFault x != 0) = true by rw [bne_iff_ne]; exact hpf) ?_
      refine .inl ⟨_, _, rfl, cp, rfl, ?_⟩
      refine chk_intro (by kernel_rfl) ?_
      exact ⟨⟨congrArg Value.bool (show (polFault x == polFault x) = true by simp), trivial⟩, rfl⟩
    have e : formatPolicy x = (0, polT x) := by unfold formatPolicy; rw [if_pos hpf]
    have cr := c_impl_ParsePolicyA (polT x)
    have hzt := tx_size (polT x)
    have cf2 := cf
    rw [e] at cf cf2
    by_cases hl : 1000 < (polT x).length
    · have e2 : parsePol polFault (polT x) = (2, 0, noPol) := by unfold parsePol; rw [if_pos hl]
      rw [e2] at cr
      refine .inl ⟨_, _, rfl, cf, rfl, ?_⟩
      repeat' (first | refine bsplit_true ?_ | refine bsplit_false ?_)
      refine .inl ⟨_, _, rfl, cr, rfl, ?_⟩
      refine bsplit_of_true (decide_eq_true (show ((tx (polT x)).size : Int) > 1000 by omega)) ?_
      exact ⟨⟨rfl, trivial⟩, rfl⟩
    rw [format_parse hpf hl] at cr
    have b1 : ((tx (polT x)).toList == (tx (polT x)).toList) = true := by simp
    have b2 : ((x.own.length : Int) == (x.own.length : Int)) = true := by simp
    refine .inl ⟨_, _, rfl, cf, rfl, ?_⟩
    repeat' (first | refine bsplit_true ?_ | refine bsplit_false ?_)
    refine .inl ⟨_, _, rfl, cr, rfl, ?_⟩
    refine bsplit_of_false (decide_eq_false (show ¬ ((tx (polT x)).size : Int) > 1000 by omega)) ?_
    repeat' (first | refine bsplit_true ?_ | refine bsplit_false ?_)
    refine .inl ⟨_, _, rfl, cf2, rfl, ?_⟩
    repeat' (first | refine bsplit_of_true b1 ?_ | refine bsplit_of_true b2 ?_ | refine bsplit_true ?_ | refine bsplit_false ?_ | refine ask_intro trivial ?_)
    refine chk_intro (by kernel_rfl) ?_
    exact ⟨⟨congrArg Value.bool (show ((x.pln.length : Int) == (x.pln.length : Int)) = true by simp), trivial⟩, rfl⟩
end Go.Proofs.YtojaakpnpdnbhaaGreatDoor.L

/- The row's step where the row lists variables and the world's shape is asked too; texts as arguments. -/
set_option linter.unusedVariables false
namespace Go.Proofs.YtojaakpnpdnbhaaGreatDoor.L
open Go.RowKit
section
variable {H : Type} {enc : TypeId × Value → H}
theorem returnsInHanded_and_shaped {a : Assume} {C : Checked} {os : Os} {f : FuncId} {fn : Func} {s : ChangeSpec} {conds : List PathCond} {apart fresh handsOn again : Bool} {X : World → Array Value → Prop}
    (hX : ∀ (w w' : World) (args : Array Value), w.heap = w'.heap → X w args → X w' args)
    (own : ownKnob C.prog.godebug = none) (started : os.Started) (noInit : C.prog.inits.idxOf? f = none) (hfn : C.prog.funcs[f]? = some fn)
    (witness : ∃ (w : World) (tape : Tape) (i : Input), w.os = os ∧ (w.forCall tape i).Shaped C.prog ∧ i.vars = [] ∧ Input.okWide C.prog (w.forCall tape i) .any w.heap.size f i ∧
      ((s.pre enc C.prog fn conds apart (w.forCall tape i).memory i.args ∧ X (w.forCall tape i).memory i.args) ∧ sizedMet enc C.prog fn (OpenSpec.ofChange s) apart (w.forCall tape i).memory i.args) ∧ a.holds C.prog (lone (Frame.enter C.prog f i.args .normal) [] (w.forCall tape i)))
    (contract : ∀ (W : World) (base : Nat) (args : Array Value) (ds gs : List (DataW H)) (before : List MemPlace),
      (∀ (j : Nat) t v, fn.params[j]? = some t → args[j]? = some v → Value.okWide C.prog W .any base t v) →
      DataW.Whole enc C.prog fn.params.toList s.vars apart W args.toList ds gs before →
      conds.all (PathCond.test C.prog ⟨fn.params.toList, ds, s.plain.varTypes C.prog, gs⟩) = true →
      (DataW.weightsEach C.prog (fn.params.toList ++ s.plain.varTypes C.prog) (ds ++ gs)).all (· ≤ reachBytes) = true → X W args → W.ShapedOpen C.prog →
      a.holds C.prog (lone (Frame.enter C.prog f args .normal) [] W) →
      Calls C.prog f args W fun e W' => ∃ v, e = .returned v ∧ s.post enc C.prog fn apart fresh handsOn again W args v W') :
    ReturnsInHanded a C os f .any (fun w args => (s.pre enc C.prog fn conds apart w args ∧ X w args) ∧ sizedMet enc C.prog fn (OpenSpec.ofChange s) apart w args) (s.post enc C.prog fn apart fresh handsOn again) := by
  refine returnsInHanded_of_calls own started noInit witness ?_
  intro w tape i _ hsh _ hok hpre hholds
  obtain ⟨_, _, _, fn', hfn', _, _, _, _, hval⟩ := hok
  have e : fn' = fn := Option.some.inj (hfn'.symm.trans hfn)
  subst e
  obtain ⟨⟨⟨ds, gs, before, hw, hc⟩, hx⟩, hz⟩ := hpre
  have hw' := DataW.Whole.of_heap (w' := w.forCall tape i) (by rfl) hw
  refine (contract (w.forCall tape i) w.heap.size i.args ds gs before hval hw' hc (hz.weights hw) (hX _ _ _ (by rfl) hx) hsh hholds).mono fun e W' ⟨v, he, hp⟩ => ?_
  subst he
  exact ChangeSpec.post_blind hp
end
theorem reads_text : ReadsT Tryz.prog 9 1 (List UInt8) (fun l => [.v (.string (tx l))]) (fun _ => True) :=
  (ReadsT.string Tryz.underlying9 (by kernel_rfl)).map (fun b => b.data.toList) (fun b _ => ⟨trivial, by
    have e : tx b.data.toList = b := by apply ByteArray.ext; simp [tx]
    rw [e]⟩)
end Go.Proofs.YtojaakpnpdnbhaaGreatDoor.L

/- The law FnPolicies answers true at every input that its statement lets in. -/
set_option linter.unusedVariables false
set_option maxRecDepth 100000
namespace Go.Proofs.YtojaakpnpdnbhaaGreatDoor.L.FnPolicies
open Go.RowKit Go.ChangeShapes Go.WideShapes Go.ChangeAt
theorem laidWorld_met (os : Os) (args : Array Value) : laidMetH Tryz.prog Rows.fnPoliciesRow.laid ((World.laidAll Tryz.prog os Rows.fnPoliciesRow.laid).forCall (fun _ _ => 0) ⟨#[], args, []⟩).memory := by
  rw [MakeChecks.laidMetH_plain _ _ _ (by kernel_rfl)]
  exact laidMet_laidAll _ (by kernel_rfl) (by kernel_rfl)
theorem star_err : "*" ++ "errors.errorString" = "*errors.errorString" := by decide
theorem row_err (u : TypeId) (h : Tryz.prog.typeName? 3 u = some "*errors.errorString") : u = 161 :=
  typeName_ptr_named (nm := "errors.errorString") (by rw [star_err]; kernel_rfl) (by kernel_rfl) (by decide) u (by rw [star_err]; exact h)
theorem gl_of_laid {W : World} (h : laidMetH Tryz.prog Rows.fnPoliciesRow.laid W) (hsh : W.ShapedOpen Tryz.prog) : GlOK (Mem W) W := by
  rw [MakeChecks.laidMetH_plain _ _ _ (by kernel_rfl)] at h
  have h' : laidMet Tryz.prog Rows.fnPoliciesRow.laid W := h
  obtain ⟨ps, hv, _⟩ := h'
  refine ⟨fun g k zs hg => ?_, fun g b hg => ?_⟩
  · rcases List.mem_cons.1 hg with e | hg
    · cases e
      have t := tab_of_laid (P := Tryz.prog) (W := W) (name := "internal/strconv.uint64pow10") (k := .u64) (zs := [1, 10, 100, 1000, 10000, 100000, 1000000, 10000000, 100000000, 1000000000, 10000000000, 100000000000, 1000000000000, 10000000000000, 100000000000000, 1000000000000000, 10000000000000000, 100000000000000000, 1000000000000000000, 10000000000000000000]) (g := 3) (t := 165) (e := 146) (n := 20) (by kernel_rfl) (by kernel_rfl) (by kernel_rfl) (by kernel_rfl) (by kernel_rfl) (by kernel_rfl) hv (List.Mem.tail _ (List.Mem.tail _ (List.Mem.head _)))
      exact gl_tab t (by kernel_rfl) (by simp)
    rcases List.mem_cons.1 hg with e | hg
    · cases e
      have t := tab_of_laid (P := Tryz.prog) (W := W) (name := "math/bits.deBruijn32tab") (k := .u8) (zs := [0, 1, 28, 2, 29, 14, 24, 3, 30, 22, 20, 15, 25, 17, 4, 8, 31, 27, 13, 23, 21, 19, 16, 7, 26, 12, 18, 6, 11, 5, 10, 9]) (g := 6) (t := 177) (e := 5) (n := 32) (by kernel_rfl) (by kernel_rfl) (by kernel_rfl) (by kernel_rfl) (by kernel_rfl) (by kernel_rfl) hv (List.Mem.head _)
      exact gl_tab t (by kernel_rfl) (by simp)
    rcases List.mem_cons.1 hg with e | hg
    · cases e
      have t := tab_of_laid (P := Tryz.prog) (W := W) (name := "math/bits.deBruijn64tab") (k := .u8) (zs := [0, 1, 56, 2, 57, 49, 28, 3, 61, 58, 42, 50, 38, 29, 17, 4, 62, 47, 59, 36, 45, 43, 51, 22, 53, 39, 33, 30, 24, 18, 12, 5, 63, 55, 48, 27, 60, 41, 37, 16, 46, 35, 44, 21, 52, 32, 23, 11, 54, 26, 40, 15, 34, 20, 31, 10, 25, 14, 19, 9, 13, 8, 7, 6]) (g := 7) (t := 178) (e := 5) (n := 64) (by kernel_rfl) (by kernel_rfl) (by kernel_rfl) (by kernel_rfl) (by kernel_rfl) (by kernel_rfl) hv (List.Mem.tail _ (List.Mem.head _))
      exact gl_tab t (by kernel_rfl) (by simp)
    cases hg
  · rcases List.mem_cons.1 hg with e | hg
    · cases e
      obtain ⟨m, hm⟩ := cell_of_shapedOpen_int (g := 0) (t := 3) (zero := #[.int .i64 0]) (k := .i64) hsh (by decide +kernel) (by kernel_rfl) rfl (by kernel_rfl) (by kernel_rfl) Tryz.underlying3
      exact ⟨cell_lt hm, _, hm, _, rfl⟩
    rcases List.mem_cons.1 hg with e | hg
    · cases e
      obtain ⟨a, s, hvar, _, _, _⟩ := laid_sentinel (P := Tryz.prog) (n := "strconv.ErrSyntax") (nm := "*errors.errorString") (text := [105, 110, 118, 97, 108, 105, 100, 32, 115, 121, 110, 116, 97, 120]) h.tail.tail.tail.tail.tail (show Tryz.prog.globalNamed "strconv.ErrSyntax" = some 1 by kernel_rfl) (show (Tryz.prog.globals[1]?).map (·.type) = some 74 by kernel_rfl) (show IfT Tryz.prog 74 from ift_err) row_err Tryz.underlying161 Tryz.underlying163 rfl rfl Tryz.underlying9 (by kernel_rfl) (by kernel_rfl)
      have hc : W.cell? ⟨1, 0, none⟩ = some (.iface 161 (.pointer (some a))) := by have h0 := World.var?_cell (show Tryz.prog.globalNamed "strconv.ErrSyntax" = some 1 by kernel_rfl) hvar 0; simpa using h0
      exact ⟨cell_lt hc, _, hc, _, _, rfl⟩
    rcases List.mem_cons.1 hg with e | hg
    · cases e
      obtain ⟨a, s, hvar, _, _, _⟩ := laid_sentinel (P := Tryz.prog) (n := "strconv.ErrRange") (nm := "*errors.errorString") (text := [118, 97, 108, 117, 101, 32, 111, 117, 116, 32, 111, 102, 32, 114, 97, 110, 103, 101]) h.tail.tail.tail.tail (show Tryz.prog.globalNamed "strconv.ErrRange" = some 2 by kernel_rfl) (show (Tryz.prog.globals[2]?).map (·.type) = some 74 by kernel_rfl) (show IfT Tryz.prog 74 from ift_err) row_err Tryz.underlying161 Tryz.underlying163 rfl rfl Tryz.underlying9 (by kernel_rfl) (by kernel_rfl)
      have hc : W.cell? ⟨2, 0, none⟩ = some (.iface 161 (.pointer (some a))) := by have h0 := World.var?_cell (show Tryz.prog.globalNamed "strconv.ErrRange" = some 2 by kernel_rfl) hvar 0; simpa using h0
      exact ⟨cell_lt hc, _, hc, _, _, rfl⟩
    cases hg
theorem lifted (os : Os) (started : os.Started) (H : Type) (enc : TypeId × Value → H) :
    ReturnsInHanded {} Tryz.checked os 4 .any (fun w args => (Rows.fnPoliciesSpec.pre enc Tryz.prog Tryz.f4 Rows.fnPoliciesRow.domain false w args ∧ laidMetH Tryz.prog Rows.fnPoliciesRow.laid w) ∧ sizedMet enc Tryz.prog Tryz.f4 (OpenSpec.ofChange Rows.fnPoliciesSpec) false w args) (Rows.fnPoliciesSpec.post enc Tryz.prog Tryz.f4 false true false false) := by
  refine returnsInHanded_and_shaped (C := Tryz.checked) (X := fun w _ => laidMetH Tryz.prog Rows.fnPoliciesRow.laid w) (fun _ _ _ hh h => h.of_heap hh) own started (by kernel_rfl) Tryz.func4
    (ChangeSpec.witness_shaped (enc := enc) (C := Tryz.checked) (os := os) (X := fun w _ => laidMetH Tryz.prog Rows.fnPoliciesRow.laid w) false (World.laidAll Tryz.prog os Rows.fnPoliciesRow.laid) #[.slice none 0 0] 8 (World.laidAll_os _ _ _)
      (World.shaped_of_ZipB (by kernel_rfl) (by kernel_rfl)) (by kernel_rfl) (by kernel_rfl) (by kernel_rfl) (laidWorld_met os _)) ?_
  intro W base args ds gs before hval0 hW hcnd hsz0 hL hsh _
  have hsz : (DataW.weightsEach Tryz.prog (Tryz.f4.params.toList ++ Rows.fnPoliciesSpec.plain.varTypes Tryz.prog) (ds ++ gs)).all (· ≤ reachBytes) = true := hsz0
  have hval : ∀ (j : Nat) t v, Tryz.f4.params[j]? = some t → args[j]? = some v → Value.okWide Tryz.prog W .any base t v := hval0
  have hW' := hW
  obtain ⟨p, q, hA0, hV, rfl, hfz, hnd⟩ := hW
  have hA : DataW.TrodAll enc Tryz.prog W 0 (fun _ => true) true Tryz.f4.params.toList args.toList ds p := hA0
  rw [Tryz.params4] at hA hval hsz
  obtain ⟨v0, vs0, d0, ds0, p0, q0, hargs, rfl, rfl, h0, r0⟩ := trodAll_cons hA
  obtain ⟨rfl, rfl, rfl⟩ := trodAll_nil r0
  obtain rfl : args = #[v0] := by cases args; simp_all
  obtain ⟨rfl, rfl⟩ := trodVars_none hV
  have hsm : ∀ k ∈ DataW.weightsEach Tryz.prog ([34] ++ Rows.fnPoliciesSpec.plain.varTypes Tryz.prog) ([d0] ++ []), k ≤ reachBytes := fun k hk => by simpa using List.all_eq_true.1 hsz k hk
  have k0 := h0
  have lt0 : ∀ x ∈ p0, x.block < W.heap.size := by obtain ⟨m, hm⟩ := k0; exact DataW.trod_lt m _ _ _ hm
  have c0 : v0.cells = #[v0] := by have z := okWide_slice Tryz.underlying34 (hval 0 34 v0 rfl rfl); (first | (obtain ⟨_, rfl⟩ := z; rfl) | (obtain ⟨_, _, _, rfl⟩ := z; rfl))
  obtain ⟨m0, hm0, hvr0⟩ := reads_bytes.one c0 h0 (fun k hk => hsm k (DataW.weights_mem_each (j := 0) rfl rfl k hk))
  refine ((c_laws_FnPolicies m0 hm0).calls W (Mem W) [v0] ⟨fun b hb => hb, gl_of_laid hL hsh⟩ rfl (fun j hj => ?_)).mono fun e W' ⟨v, he, bel, hrr⟩ => ?_
  · match j, hj with
    | 0, _ => exact hvr0
    | j + 1, hj => exact absurd hj (by simp)
  · obtain ⟨us, J, hl, rfl, hJ, hok, _, _⟩ := hrr.ex
    have h1 := hok 0 _ rfl
    have h2 : RV.val us (rb true) = .bool true := h1
    rw [h2] at he
    subst he
    exact ⟨_, rfl, _, _, _, [], _, [], hW', trodAll_mk1 (shut_bool Tryz.underlying4 _), (trodAll_cons_mk (Below.trod laidOut (by kernel_rfl) (of_decide_eq_true (by kernel_rfl)) k0 bel lt0) trodAll_mk0), rfl, bel.frame _, fun h => by cases h⟩
theorem over : Rows.fnPoliciesRow.holds Tryz.pinned (OpenSpec.ofChange Rows.fnPoliciesSpec) :=
  OpenClaim.holds_of_wide 4 Tryz.f4 rfl rfl rfl rfl rfl rfl rfl ⟨rfl, rfl, rfl, rfl, rfl⟩ rfl rfl rfl rfl rfl (by kernel_rfl) Tryz.func4 (by kernel_rfl)
    (of_decide_eq_true (by kernel_rfl)) (by unfold Func.isWrapper; first | (rw [if_pos (by decide +kernel)]; kernel_rfl) | (rw [if_neg (by decide +kernel)]; exact ⟨rfl, rfl⟩))
    (fun os started H enc _ => lifted os started H enc)
theorem card : Rows.FnPoliciesCardSaid :=
  Claim7.holds_tied_plain_at .later [] [.data, .data, .data, .data, .sentinel, .sentinel, .pinned] true (true, "bbe67405d155a4364471ad1d897c0afbdc935997fcae7e4c54b2cdf56fd6a091") true over (fun _ h => by cases h) (by kernel_rfl) (fun _ h => by cases h) fnPolicies_row_tie rfl ⟨rfl, rfl⟩ (by kernel_rfl) rfl
    (fun f fn hf hfn => by
      obtain rfl : f = 4 := (Option.some.inj ((show Tryz.prog.funcNamed "loop.example/g00213/laws.FnPolicies" = some 4 by kernel_rfl).symm.trans hf)).symm
      obtain rfl : fn = Tryz.f4 := (Option.some.inj (Tryz.func4.symm.trans hfn)).symm
      refine ⟨by kernel_rfl, fun j t ht => ?_⟩
      rw [Tryz.params4] at ht
      rcases j with _ | j
      · obtain rfl : t = 34 := by simpa using ht.symm
        exact (show Tryz.prog.wantsStandIn 34 = false by kernel_rfl)
      simp at ht)
    (by kernel_rfl)
end Go.Proofs.YtojaakpnpdnbhaaGreatDoor.L.FnPolicies
namespace Go.Proofs.YtojaakpnpdnbhaaGreatDoor
theorem fnPolicies_holds : Rows.FnPoliciesCardSaid := L.FnPolicies.card
#print axioms fnPolicies_holds
end Go.Proofs.YtojaakpnpdnbhaaGreatDoor
