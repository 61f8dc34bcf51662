/- The law FnExactReachTo answers true at every input that its statement lets in. -/
import Derived.Test.YtdpahckfibnagaaRows
import Derived.Test.YtdpahckfibnagaaZ1
/- Who has a link to a guest: the reference and the program. -/
set_option linter.unusedVariables false
set_option linter.unusedSimpArgs false
set_option maxRecDepth 100000
namespace Go.Proofs.Ytdpahckfibnagaa.L
open Go.RowKit
abbrev stepL (g : Int) (S : List Int) (z : LaneM) : List Int := if z.to = g then rise S z.frm else S
abbrev stepB (g : Int) (S : List Int) (z : BellM) : List Int := if z.to = g then rise S z.frm else S
def linkS (x : PolM) (g : Int) : List Int := x.bls.foldl (stepB g) (x.lns.foldl (stepL g) [])
theorem stepL_len (g : Int) (S : List Int) (z : LaneM) : (stepL g S z).length ≤ S.length + 1 := by
  unfold stepL
  split
  · exact rise_len _ _
  · omega
theorem stepB_len (g : Int) (S : List Int) (z : BellM) : (stepB g S z).length ≤ S.length + 1 := by
  unfold stepB
  split
  · exact rise_len _ _
  · omega
set_option maxHeartbeats 1600000 in
theorem c_spec_l6Links (x : PolM) (hl : x.lns.length ≤ 4) (hb : x.bls.length ≤ 4) (g : Int) : FnOK Try.prog 91 [polP x, di g] (.r (.one (.sh (ints (linkS x g))))) := by
  obtain ⟨V, hV⟩ : ∃ V, V = x.lns.foldl (stepL g) [] := ⟨_, rfl⟩
  obtain ⟨R, hR⟩ : ∃ R, R = linkS x g := ⟨_, rfl⟩
  rw [← hR]
  unfold linkS at hR
  rw [← hV] at hR
  refine fn_of lv91 Try.func91 rfl rfl (by kernel_rfl) rfl ?_
  refine ⟨{ p : Nat × List Int // p.1 ≤ x.lns.length ∧ p.2.length ≤ p.1 ∧ (x.lns.drop p.1).foldl (stepL g) p.2 = V }, fun p => ⟨frL [(0, polP x), (1, di g), (5, .d (ints p.1.2)), (6, di p.1.1)], hpL [], 97, 0⟩, fun p => x.lns.length - p.1.1, ⟨(0, []), by omega, by simp, hV.symm⟩,
    le_of [] rfl rfl rfl rfl trivial (tellFr_x rfl ⟨DLe.refl _, DLe.refl _, DLe.refl _, DLe.refl _, trivial⟩ (tellFr_v rfl rfl (tellFr_x rfl (tellV_frz rfl rfl rfl (DLe.l rfl (fun j hj => absurd hj (by omega)))) (tellFr_v rfl rfl trivial)))), ?_⟩
  rintro ⟨⟨i, S⟩, hi, hSl, hall⟩
  simp only at hi hSl hall
  by_cases h1 : i < x.lns.length
  · rw [drop_consG ⟨0, 0, 0, 0, 0⟩ x.lns i h1, List.foldl_cons] at hall
    have hwr := congrArg (Value.int .i64) (wrap1 h1 (by omega))
    have hl2 := stepL_len g S (x.lns.getD i ⟨0, 0, 0, 0, 0⟩)
    have c1 := c_spec_l1Rise S (x.lns.getD i ⟨0, 0, 0, 0, 0⟩).frm (by omega)
    refine bsplit_of_true (decide_eq_true (show (i : Int) < (x.lns.length : Int) by omega)) ?_
    refine ask_intro ⟨by omega, by show (i : Int) < (x.lns.length : Int); omega, rfl⟩ ?_
    by_cases h2 : (x.lns.getD i ⟨0, 0, 0, 0, 0⟩).to = g
    · have e : stepL g S (x.lns.getD i ⟨0, 0, 0, 0, 0⟩) = rise S (x.lns.getD i ⟨0, 0, 0, 0, 0⟩).frm := if_pos h2
      rw [e] at hall hl2
      refine bsplit_of_true (beq_iff_eq.2 h2) ?_
      refine ask_intro ⟨by omega, by show (i : Int) < (x.lns.length : Int); omega, rfl⟩ ?_
      refine .inl ⟨_, _, rfl, c1, rfl, ?_⟩
      exact ⟨⟨(i + 1, rise S (x.lns.getD i ⟨0, 0, 0, 0, 0⟩).frm), by show i + 1 ≤ _; omega, by show (rise S _).length ≤ i + 1; omega, hall⟩, le_of [] rfl rfl rfl rfl trivial (tellFr_x rfl ⟨DLe.refl _, DLe.refl _, DLe.refl _, DLe.refl _, trivial⟩ (tellFr_v rfl rfl (tellFr_d rfl (DLe.refl _) (tellFr_v rfl hwr trivial)))), by show x.lns.length - (i + 1) < x.lns.length - i; omega⟩
    · have e : stepL g S (x.lns.getD i ⟨0, 0, 0, 0, 0⟩) = S := if_neg h2
      rw [e] at hall
      refine bsplit_of_false (beq_eq_false_iff_ne.2 h2) ?_
      exact ⟨⟨(i + 1, S), by show i + 1 ≤ _; omega, by show S.length ≤ i + 1; omega, hall⟩, le_of [] rfl rfl rfl rfl trivial (tellFr_x rfl ⟨DLe.refl _, DLe.refl _, DLe.refl _, DLe.refl _, trivial⟩ (tellFr_v rfl rfl (tellFr_d rfl (DLe.refl _) (tellFr_v rfl hwr trivial)))), by show x.lns.length - (i + 1) < x.lns.length - i; omega⟩
  rw [List.drop_eq_nil_of_le (by omega)] at hall
  have hall : S = V := hall
  subst hall
  refine bsplit_of_false (decide_eq_false (show ¬ (i : Int) < (x.lns.length : Int) by omega)) ?_
  refine ⟨{ p : Nat × List Int // p.1 ≤ x.bls.length ∧ p.2.length ≤ p.1 + 4 ∧ (x.bls.drop p.1).foldl (stepB g) p.2 = R }, fun p => ⟨frL [(0, polP x), (1, di g), (5, .d (ints p.1.2)), (7, di p.1.1)], hpL [], 97, 0⟩, fun p => x.bls.length - p.1.1, ⟨(0, S), by omega, by show S.length ≤ 0 + 4; omega, hR.symm⟩,
    le_of [] rfl rfl rfl rfl trivial (tellFr_x rfl ⟨DLe.refl _, DLe.refl _, DLe.refl _, DLe.refl _, trivial⟩ (tellFr_v rfl rfl (tellFr_d rfl (DLe.refl _) (tellFr_v rfl rfl trivial)))), ?_⟩
  rintro ⟨⟨k, T⟩, hk, hTl, hall⟩
  simp only at hk hTl hall
  by_cases h1 : k < x.bls.length
  · rw [drop_consG ⟨0, 0⟩ x.bls k h1, List.foldl_cons] at hall
    have hwr := congrArg (Value.int .i64) (wrap1 h1 (by omega))
    have hl2 := stepB_len g T (x.bls.getD k ⟨0, 0⟩)
    have c1 := c_spec_l1Rise T (x.bls.getD k ⟨0, 0⟩).frm (by omega)
    refine bsplit_of_true (decide_eq_true (show (k : Int) < (x.bls.length : Int) by omega)) ?_
    refine ask_intro ⟨by omega, by show (k : Int) < (x.bls.length : Int); omega, rfl⟩ ?_
    by_cases h2 : (x.bls.getD k ⟨0, 0⟩).to = g
    · have e : stepB g T (x.bls.getD k ⟨0, 0⟩) = rise T (x.bls.getD k ⟨0, 0⟩).frm := if_pos h2
      rw [e] at hall hl2
      refine bsplit_of_true (beq_iff_eq.2 h2) ?_
      refine ask_intro ⟨by omega, by show (k : Int) < (x.bls.length : Int); omega, rfl⟩ ?_
      refine .inl ⟨_, _, rfl, c1, rfl, ?_⟩
      exact ⟨⟨(k + 1, rise T (x.bls.getD k ⟨0, 0⟩).frm), by show k + 1 ≤ _; omega, by show (rise T _).length ≤ k + 1 + 4; omega, hall⟩, le_of [] rfl rfl rfl rfl trivial (tellFr_x rfl ⟨DLe.refl _, DLe.refl _, DLe.refl _, DLe.refl _, trivial⟩ (tellFr_v rfl rfl (tellFr_d rfl (DLe.refl _) (tellFr_v rfl hwr trivial)))), by show x.bls.length - (k + 1) < x.bls.length - k; omega⟩
    · have e : stepB g T (x.bls.getD k ⟨0, 0⟩) = T := if_neg h2
      rw [e] at hall
      refine bsplit_of_false (beq_eq_false_iff_ne.2 h2) ?_
      exact ⟨⟨(k + 1, T), by show k + 1 ≤ _; omega, by show T.length ≤ k + 1 + 4; omega, hall⟩, le_of [] rfl rfl rfl rfl trivial (tellFr_x rfl ⟨DLe.refl _, DLe.refl _, DLe.refl _, DLe.refl _, trivial⟩ (tellFr_v rfl rfl (tellFr_d rfl (DLe.refl _) (tellFr_v rfl hwr trivial)))), by show x.bls.length - (k + 1) < x.bls.length - k; omega⟩
  rw [List.drop_eq_nil_of_le (by omega)] at hall
  have hall : T = R := hall
  subst hall
  refine bsplit_of_false (decide_eq_false (show ¬ (k : Int) < (x.bls.length : Int) by omega)) ?_
  exact ⟨⟨DLe.refl _, trivial⟩, rfl⟩
end Go.Proofs.Ytdpahckfibnagaa.L

/- Who has a link to a guest: the plain law. -/
set_option linter.unusedVariables false
set_option linter.unusedSimpArgs false
set_option maxRecDepth 100000
namespace Go.Proofs.Ytdpahckfibnagaa.L
open Go.RowKit
theorem rising_ext : ∀ (l m : List Int), l.Pairwise (· < ·) → m.Pairwise (· < ·) → (∀ a, a ∈ l ↔ a ∈ m) → l = m
  | [], [], _, _, _ => rfl
  | [], b :: m, _, _, h => absurd ((h b).2 (by simp)) (by simp)
  | a :: l, [], _, _, h => absurd ((h a).1 (by simp)) (by simp)
  | a :: l, b :: m, hl, hm, h => by
    obtain ⟨l1, l2⟩ := List.pairwise_cons.1 hl
    obtain ⟨m1, m2⟩ := List.pairwise_cons.1 hm
    have e : a = b := by
      rcases List.mem_cons.1 ((h a).1 (by simp)) with e | e
      · exact e
      · rcases List.mem_cons.1 ((h b).2 (by simp)) with e2 | e2
        · exact e2.symm
        · have := m1 a e; have := l1 b e2; omega
    subst e
    rw [rising_ext l m l2 m2 fun x => ?_]
    constructor
    · intro hx
      rcases List.mem_cons.1 ((h x).1 (List.mem_cons_of_mem _ hx)) with e | e
      · have := l1 x hx; omega
      · exact e
    · intro hx
      rcases List.mem_cons.1 ((h x).2 (List.mem_cons_of_mem _ hx)) with e | e
      · have := m1 x hx; omega
      · exact e
theorem mem_rise {l : List Int} {v a : Int} : a ∈ rise l v ↔ a ∈ l ∨ a = v := by
  unfold rise
  split
  · rename_i h
    constructor
    · exact .inl
    · rintro (h2 | rfl)
      · exact h2
      · have e := h.2
        rw [getD_at 0 h.1] at e
        rw [← e]
        exact List.getElem_mem _
  · have e : l.take (riseAt l v) ++ l.drop (riseAt l v) = l := List.take_append_drop _ _
    constructor
    · intro h
      rcases List.mem_append.1 h with h | h
      · exact .inl (by rw [← e]; exact List.mem_append_left _ h)
      · rcases List.mem_cons.1 h with h | h
        · exact .inr h
        · exact .inl (by rw [← e]; exact List.mem_append_right _ h)
    · rintro (h | rfl)
      · rw [← e] at h
        rcases List.mem_append.1 h with h | h
        · exact List.mem_append_left _ h
        · exact List.mem_append_right _ (List.mem_cons_of_mem _ h)
      · exact List.mem_append_right _ (by simp)
theorem rise_rising {l : List Int} {v : Int} (h : l.Pairwise (· < ·)) : (rise l v).Pairwise (· < ·) := by
  unfold rise
  split
  · exact h
  · rename_i hn
    have e : l.take (riseAt l v) ++ l.drop (riseAt l v) = l := List.take_append_drop _ _
    have h0 := h
    rw [← e, List.pairwise_append] at h0
    obtain ⟨p1, p2, p3⟩ := h0
    have lo : ∀ a ∈ l.take (riseAt l v), a < v := by
      intro a ha
      obtain ⟨j, hj, rfl⟩ := List.getElem_of_mem ha
      rw [List.length_take] at hj
      rw [List.getElem_take]
      have := List.not_of_lt_findIdx (p := fun a => !decide (a < v)) (xs := l) (i := j) (by show j < riseAt l v; omega)
      simpa using this
    have hi : ∀ b ∈ l.drop (riseAt l v), v < b := by
      intro b hb
      by_cases hlt : riseAt l v < l.length
      · have h1 : ¬ l[riseAt l v] < v := by
          have this : (!decide (l[riseAt l v] < v)) = true := List.findIdx_getElem (p := fun a => !decide (a < v)) (xs := l) (w := hlt)
          intro hc
          rw [decide_eq_true hc] at this
          exact absurd this (by decide)
        have h2 : l[riseAt l v] ≠ v := fun e => hn ⟨hlt, by rw [getD_at 0 hlt]; exact e⟩
        rw [List.drop_eq_getElem_cons hlt] at hb p2
        rcases List.mem_cons.1 hb with e | e
        · subst e; omega
        · have := (List.pairwise_cons.1 p2).1 b e; omega
      · rw [List.drop_eq_nil_of_le (by omega)] at hb
        simp at hb
    rw [List.pairwise_append, List.pairwise_cons]
    refine ⟨p1, ⟨hi, p2⟩, fun a ha b hb => ?_⟩
    rcases List.mem_cons.1 hb with e | e
    · subst e; exact lo a ha
    · exact p3 a ha b e
theorem mem_freeR {p : Int → Bool} : ∀ {n : Nat} {v a : Int}, a ∈ freeR p n v ↔ v ≤ a ∧ a < v + n ∧ p a = true
  | 0, v, a => by
    constructor
    · intro h; simp [freeR] at h
    · intro h; omega
  | n + 1, v, a => by
    have ih := mem_freeR (p := p) (n := n) (v := v + 1) (a := a)
    unfold freeR
    split
    · rename_i h
      rw [List.mem_cons, ih]
      constructor
      · rintro (rfl | h2)
        · exact ⟨by omega, by omega, h⟩
        · exact ⟨by omega, by omega, h2.2.2⟩
      · intro h2
        by_cases e : a = v
        · exact .inl e
        · exact .inr ⟨by omega, by omega, h2.2.2⟩
    · rename_i h
      rw [ih]
      constructor
      · intro h2; exact ⟨by omega, by omega, h2.2.2⟩
      · intro h2
        have e : a ≠ v := by rintro rfl; exact h h2.2.2
        exact ⟨by omega, by omega, h2.2.2⟩
theorem freeR_rising {p : Int → Bool} : ∀ {n : Nat} {v : Int}, (freeR p n v).Pairwise (· < ·)
  | 0, v => List.Pairwise.nil
  | n + 1, v => by
    have ih := freeR_rising (p := p) (n := n) (v := v + 1)
    unfold freeR
    split
    · refine List.pairwise_cons.2 ⟨fun a ha => ?_, ih⟩
      have := (mem_freeR.1 ha).1
      omega
    · exact ih
theorem foldL_mem (g : Int) : ∀ (l : List LaneM) (S : List Int) (a : Int), a ∈ l.foldl (stepL g) S ↔ a ∈ S ∨ l.any (laneAB a g) = true
  | [], S, a => by simp
  | z :: l, S, a => by
    rw [List.foldl_cons, foldL_mem g l, List.any_cons]
    unfold stepL
    by_cases h : z.to = g
    · rw [if_pos h, mem_rise]
      simp only [laneAB, h, beq_self_eq_true, Bool.and_true, Bool.or_eq_true, beq_iff_eq]
      constructor
      · rintro ((h1 | h1) | h1)
        · exact .inl h1
        · exact .inr (.inl h1.symm)
        · exact .inr (.inr h1)
      · rintro (h1 | h1 | h1)
        · exact .inl (.inl h1)
        · exact .inl (.inr h1.symm)
        · exact .inr h1
    · rw [if_neg h]
      simp [laneAB, h]
theorem foldB_mem (g : Int) : ∀ (l : List BellM) (S : List Int) (a : Int), a ∈ l.foldl (stepB g) S ↔ a ∈ S ∨ l.any (fun z => z == ⟨a, g⟩) = true
  | [], S, a => by simp
  | z :: l, S, a => by
    rw [List.foldl_cons, foldB_mem g l, List.any_cons]
    unfold stepB
    obtain ⟨f, t⟩ := z
    by_cases h : t = g
    · rw [if_pos h, mem_rise, h]
      have e : ((⟨f, g⟩ : BellM) == ⟨a, g⟩) = (f == a) := by
        by_cases h2 : f = a
        · subst h2; simp
        · rw [beq_eq_false_iff_ne.2 h2, beq_eq_false_iff_ne]
          intro e; exact h2 (BellM.mk.inj e).1
      rw [e]
      simp only [Bool.or_eq_true, beq_iff_eq]
      constructor
      · rintro ((h1 | h1) | h1)
        · exact .inl h1
        · exact .inr (.inl h1.symm)
        · exact .inr (.inr h1)
      · rintro (h1 | h1 | h1)
        · exact .inl (.inl h1)
        · exact .inl (.inr h1.symm)
        · exact .inr h1
    · rw [if_neg h]
      have e : ((⟨f, t⟩ : BellM) == ⟨a, g⟩) = false := by
        rw [beq_eq_false_iff_ne]
        intro e; exact h (BellM.mk.inj e).2
      rw [e, Bool.false_or]
theorem foldL_rising (g : Int) : ∀ (l : List LaneM) (S : List Int), S.Pairwise (· < ·) → (l.foldl (stepL g) S).Pairwise (· < ·)
  | [], S, h => h
  | z :: l, S, h => by
    rw [List.foldl_cons]
    refine foldL_rising g l _ ?_
    unfold stepL
    split
    · exact rise_rising h
    · exact h
theorem foldB_rising (g : Int) : ∀ (l : List BellM) (S : List Int), S.Pairwise (· < ·) → (l.foldl (stepB g) S).Pairwise (· < ·)
  | [], S, h => h
  | z :: l, S, h => by
    rw [List.foldl_cons]
    refine foldB_rising g l _ ?_
    unfold stepB
    split
    · exact rise_rising h
    · exact h
theorem mem_linkS {x : PolM} {g a : Int} : a ∈ linkS x g ↔ linked x a g = true := by
  unfold linkS linked
  rw [foldB_mem, foldL_mem]
  simp
theorem links_eq {x : PolM} {g : Int} (h : ∀ a, linked x a g = true → 0 ≤ a ∧ a < (x.own.length : Int)) : linkS x g = linksL x g := by
  refine rising_ext _ _ (foldB_rising g _ _ (foldL_rising g _ _ List.Pairwise.nil)) freeR_rising fun a => ?_
  rw [mem_linkS]
  unfold linksL
  rw [mem_freeR]
  constructor
  · intro h2
    have := h a h2
    exact ⟨by omega, by omega, h2⟩
  · intro h2; exact h2.2.2
theorem lanes_ends (own : List (List Int)) : ∀ (l ah : List LaneM), lanesBad own ah l = 0 → ∀ m ∈ l, endsF own.length m.frm m.to = 0
  | [], _, _, m, hm => by simp at hm
  | z :: l, ah, h, m, hm => by
    unfold lanesBad at h
    split at h
    · rename_i h1
      rcases List.mem_cons.1 hm with rfl | hm
      · unfold laneBad at h1
        split at h1
        · assumption
        · rename_i h2; exact absurd h1 h2
      · exact lanes_ends own l _ h m hm
    · rename_i h1; exact absurd h h1
theorem bells_ends (n : Nat) : ∀ (l ah : List BellM), bellsBad n ah l = 0 → ∀ m ∈ l, endsF n m.frm m.to = 0
  | [], _, _, m, hm => by simp at hm
  | z :: l, ah, h, m, hm => by
    unfold bellsBad at h
    split at h
    · rename_i h1
      rcases List.mem_cons.1 hm with rfl | hm
      · unfold bellBad at h1
        split at h1
        · assumption
        · rename_i h2; exact absurd h1 h2
      · exact bells_ends n l _ h m hm
    · rename_i h1; exact absurd h h1
theorem bif_zer {b : Bool} {x : Int} {n : Int} (h : (bif b then n else x) = 0) (hn : n ≠ 0) : b = false ∧ x = 0 := by cases b <;> simp_all
theorem pol_links {x : PolM} (h : polFault x = 0) : x.lns.length ≤ 4 ∧ x.bls.length ≤ 4 ∧ lanesBad x.own [] x.lns = 0 ∧ bellsBad x.own.length [] x.bls = 0 := by
  unfold polFault at h
  split at h
  · obtain ⟨h1, h⟩ := bif_zer h (by decide)
    simp only [Bool.or_eq_false_iff, decide_eq_false_iff_not] at h1
    split at h
    · rename_i h2
      split at h
      · rename_i h3; exact ⟨by omega, by omega, h2, h3⟩
      · rename_i h3; exact absurd h h3
    · rename_i h2; exact absurd h h2
  · rename_i h1; exact absurd h h1
theorem ends_frm {n : Nat} {a b : Int} (h : endsF n a b = 0) : 0 ≤ a ∧ a < (n : Int) := by
  unfold endsF at h
  obtain ⟨h1, _⟩ := bif_zer h (by decide)
  simp only [Bool.or_eq_false_iff, Bool.not_eq_eq_eq_not, Bool.not_false] at h1
  have := inR_iff.1 (show inR a 0 _ = true from h1.1)
  omega
theorem linked_guest {x : PolM} (h : polFault x = 0) (g : Int) (a : Int) (hl : linked x a g = true) : 0 ≤ a ∧ a < (x.own.length : Int) := by
  obtain ⟨_, _, h1, h2⟩ := pol_links h
  unfold linked at hl
  rcases Bool.or_eq_true_iff.1 hl with hl | hl
  · obtain ⟨z, hz, hz2⟩ := List.any_eq_true.1 hl
    have e := lanes_ends x.own x.lns [] h1 z hz
    simp only [laneAB, Bool.and_eq_true, beq_iff_eq] at hz2
    rw [hz2.1] at e
    exact ends_frm e
  · obtain ⟨z, hz, hz2⟩ := List.any_eq_true.1 hl
    have e := bells_ends x.own.length x.bls [] h2 z hz
    obtain rfl : z = ⟨a, g⟩ := beq_iff_eq.1 hz2
    exact ends_frm e
theorem asked_pol {x : PolM} {g : Int} (h : askedG x g = 0) : polFault x = 0 := by
  unfold askedG at h
  split at h
  · assumption
  · rename_i e; exact absurd h e
abbrev irsSh (p : Int × List Int) : RV1 := .agg [.v (.int .i64 p.1), .sh (ints p.2)]
theorem c_spec_LinksTo (x : PolM) (hs : x.small) (g : Int) : FnOK Try.prog 40 [polLV x, di g] (.r (irsSh (linksTo x g))) := by
  have c1 := c_spec_l6Asked x hs g
  obtain ⟨r, hr⟩ : ∃ r, r = linksTo x g := ⟨_, rfl⟩
  rw [← hr]
  unfold linksTo at hr
  by_cases h : askedG x g = 0
  · have hp := asked_pol h
    obtain ⟨q1, q2, _, _⟩ := pol_links hp
    have c2 := c_spec_l6Links x q1 q2 g
    rw [links_eq (linked_guest hp g)] at c2
    rw [if_pos h] at hr
    rw [h] at c1
    subst hr
    refine fn_of lv40 Try.func40 rfl rfl (by kernel_rfl) rfl ?_
    refine .inl ⟨_, _, rfl, c1, rfl, ?_⟩
    repeat' (first | refine bsplit_true ?_ | refine bsplit_false ?_)
    refine .inl ⟨_, _, rfl, c2, rfl, ?_⟩
    exact ⟨⟨rfl, DLe.refl _, trivial⟩, rfl⟩
  · rw [if_neg h] at hr
    subst hr
    generalize askedG x g = e at *
    refine fn_of lv40 Try.func40 rfl rfl (by kernel_rfl) rfl ?_
    refine .inl ⟨_, _, rfl, c1, rfl, ?_⟩
    refine bsplit_of_true (by simpa using h) ?_
    exact ⟨⟨rfl, DLe.nil _, trivial⟩, rfl⟩
theorem linksTo_few (x : PolM) (g : Int) : (linksTo x g).2.length ≤ 1048576 := by
  unfold linksTo
  split
  · rename_i h
    have hp := asked_pol h
    have := freeR_len (fun k => linked x k g) x.own.length 0
    have hf : x.own.length ≤ 3 := by
      unfold polFault at hp
      split at hp
      · rename_i ho
        unfold ownBad at ho
        cases hq : inR (x.own.length : Int) 1 3 with
        | false => rw [hq] at ho; simp at ho
        | true => have := inR_iff.1 hq; omega
      · rename_i ho; exact absurd hp ho
    show (freeR _ _ _).length ≤ _
    omega
  · simp
end Go.Proofs.Ytdpahckfibnagaa.L

/- Sorting few whole numbers in their place: contracts. -/
set_option linter.unusedVariables false
set_option linter.unusedSimpArgs false
set_option maxRecDepth 100000
namespace Go.Proofs.Ytdpahckfibnagaa.L
open Go.RowKit
theorem sorted_uniq : ∀ {l m : List Int}, l.Perm m → l.Pairwise (· ≤ ·) → m.Pairwise (· ≤ ·) → l = m
  | [], m, h, _, _ => h.nil_eq
  | a :: l, [], h, _, _ => absurd h.length_eq (by simp)
  | a :: l, b :: m, h, h1, h2 => by
    obtain ⟨l1, l2⟩ := List.pairwise_cons.1 h1
    obtain ⟨m1, m2⟩ := List.pairwise_cons.1 h2
    have e : a = b := by
      rcases List.mem_cons.1 (h.mem_iff.1 (List.mem_cons_self : a ∈ a :: l)) with e | e
      · exact e
      · rcases List.mem_cons.1 (h.mem_iff.2 (List.mem_cons_self : b ∈ b :: m)) with e2 | e2
        · exact e2.symm
        · have := m1 a e; have := l1 b e2; omega
    subst e
    rw [sorted_uniq h.cons_inv l2 m2]
/-- sorted up to i but for the place j, which rises down -/
def DownI (T : List Int) (i j : Nat) : Prop := ∀ p q, p < q → q ≤ i → q ≠ j → T.getD p 0 ≤ T.getD q 0
def UpI (T : List Int) (i : Nat) : Prop := ∀ p q, p < q → q < i → T.getD p 0 ≤ T.getD q 0
def swapL (T : List Int) (j : Nat) : List Int := (T.set j (T.getD (j - 1) 0)).set (j - 1) (T.getD j 0)
theorem swapL_len (T : List Int) (j : Nat) : (swapL T j).length = T.length := by simp [swapL]
theorem swapL_get (T : List Int) (j : Nat) (h0 : 0 < j) (hj : j < T.length) (q : Nat) : (swapL T j).getD q 0 = if q = j then T.getD (j - 1) 0 else if q = j - 1 then T.getD j 0 else T.getD q 0 := by
  unfold swapL
  by_cases e1 : q = j
  · subst e1
    rw [if_pos rfl]
    simp only [List.getD]
    rw [List.getElem?_set_ne (by omega), List.getElem?_set_self hj]
    rfl
  · rw [if_neg e1]
    by_cases e2 : q = j - 1
    · subst e2
      rw [if_pos rfl]
      simp only [List.getD]
      rw [List.getElem?_set_self (by rw [List.length_set]; omega)]
      rfl
    · rw [if_neg e2]
      simp only [List.getD]
      rw [List.getElem?_set_ne (by omega), List.getElem?_set_ne (by omega)]
theorem swapL_perm (T : List Int) (j : Nat) (h0 : 0 < j) (hj : j < T.length) : (swapL T j).Perm T := by
  unfold swapL
  rw [getD_at 0 hj, getD_at 0 (by omega : j - 1 < T.length)]
  exact List.set_set_perm hj (by omega)
theorem DownI.step {T : List Int} {i j : Nat} (h : DownI T i j) (h0 : 0 < j) (hji : j ≤ i) (hi : i < T.length) (hlt : T.getD j 0 < T.getD (j - 1) 0) : DownI (swapL T j) i (j - 1) := by
  intro p q hpq hq hqj
  rw [swapL_get T j h0 (by omega) p, swapL_get T j h0 (by omega) q]
  by_cases e1 : q = j
  · rw [if_pos e1, if_neg (by omega : ¬ p = j)]
    by_cases e2 : p = j - 1
    · rw [if_pos e2]; omega
    · rw [if_neg e2]; exact h p (j - 1) (by omega) (by omega) (by omega)
  · rw [if_neg e1, if_neg hqj]
    by_cases e2 : p = j
    · rw [if_pos e2]; exact h (j - 1) q (by omega) hq e1
    · rw [if_neg e2]
      by_cases e3 : p = j - 1
      · rw [if_pos e3]; exact h j q (by omega) hq e1
      · rw [if_neg e3]; exact h p q hpq hq e1
theorem DownI.done {T : List Int} {i j : Nat} (h : DownI T i j) (hji : j ≤ i) (hx : 0 < j → ¬ T.getD j 0 < T.getD (j - 1) 0) : UpI T (i + 1) := by
  intro p q hpq hq
  by_cases e : q = j
  · subst e
    have h1 := hx (by omega)
    by_cases e2 : p = q - 1
    · subst e2; omega
    · have := h p (q - 1) (by omega) (by omega) (by omega); omega
  · exact h p q hpq (by omega) e
theorem UpI.down {T : List Int} {i : Nat} (h : UpI T i) : DownI T i i := fun p q hpq hq hne => h p q hpq (by omega)
theorem UpI.sorted {T : List Int} (h : UpI T T.length) : T.Pairwise (· ≤ ·) := by
  rw [List.pairwise_iff_getElem]
  intro i j hi hj hij
  have := h i j hij hj
  rw [getD_at 0 hi, getD_at 0 hj] at this
  exact this
theorem c_cmp_isNaN_int64 (a : Int) : FnOK Try.prog 158 [di a] (rb false) := by
  refine fn_of lv158 Try.func158 rfl rfl (by kernel_rfl) rfl ?_
  exact ⟨⟨congrArg Value.bool (by simp), trivial⟩, rfl⟩
theorem c_cmp_Less_int64 (a b : Int) : FnOK Try.prog 145 [di a, di b] (rb (decide (a < b))) := by
  have c1 := c_cmp_isNaN_int64 a
  obtain ⟨v, hv⟩ : ∃ v, v = decide (a < b) := ⟨_, rfl⟩
  rw [← hv]
  refine fn_of lv145 Try.func145 rfl rfl (by kernel_rfl) rfl ?_
  refine .inl ⟨_, _, rfl, c1, rfl, ?_⟩
  repeat' (first | refine bsplit_true ?_ | refine bsplit_false ?_ | refine chk_intro (by kernel_rfl) ?_)
  exact ⟨⟨congrArg Value.bool hv.symm, trivial⟩, rfl⟩
theorem swap_hit {U : List Int} {j : Nat} (h0 : 0 < j) (hj : j < U.length) (k : Nat) (hk : k = j - 1) (q : Nat) :
    (if q = k then splice (if q = j then splice (intsF U q) 0 [D.v (.int .i64 (U.getD k 0))] else intsF U q) 0 [D.v (.int .i64 (U.getD j 0))] else if q = j then splice (intsF U q) 0 [D.v (.int .i64 (U.getD k 0))] else intsF U q) = intsF (swapL U j) q := by
  subst hk
  show _ = [D.v (.int .i64 ((swapL U j).getD q 0))]
  rw [swapL_get U j h0 hj q]
  by_cases e1 : q = j
  · rw [if_neg (by omega), if_pos e1, if_pos e1]
    rfl
  · rw [if_neg e1, if_neg e1]
    by_cases e2 : q = j - 1
    · rw [if_pos e2, if_pos e2]; rfl
    · rw [if_neg e2, if_neg e2]
set_option maxHeartbeats 1600000 in
theorem c_slices_insertionSort (S R : List Int) (hp : S.Perm R) (hR : R.Pairwise (· ≤ ·)) (hl : S.length ≤ 4096) : MutOK Try.prog 139 [.row 0, di 0, di S.length] 1 [(0, rowE S)] (.tup []) 1 [(0, rowE R)] := by
  have hlen := hp.length_eq
  refine mut_fn_of lv139 Try.func139 rfl rfl (by kernel_rfl) rfl [] ?_
  refine ⟨{ x : Nat × List Int // 1 ≤ x.1 ∧ (x.1 ≤ S.length ∨ x.1 = 1) ∧ x.2.Perm S ∧ UpI x.2 x.1 }, fun x => ⟨frL [(0, .row 0), (1, di 0), (2, di S.length), (6, di x.1.1)], hpL [(0, .row 2 1 S.length (intsF x.1.2))], 1, 1⟩, fun x => S.length - x.1.1, ⟨(1, S), by omega, .inr rfl, List.Perm.refl _, fun p q h1 h2 => by omega⟩,
    le_of [] rfl rfl rfl rfl (tellHp_row rfl rfl rfl (fun i hi => rfl) tellHp_nil) (tellFr_row rfl rfl (tellFr_v rfl rfl (tellFr_v rfl rfl (tellFr_v rfl rfl trivial)))), ?_⟩
  rintro ⟨⟨i, T⟩, hi1, hi, hT, hU⟩
  simp only at hi1 hi hT hU
  have hTl := hT.length_eq
  by_cases h1 : i < S.length
  · have hwi := congrArg (Value.int .i64) (wrap1 h1 (by omega))
    refine bsplit_of_true (decide_eq_true (show (i : Int) < (S.length : Int) by omega)) ?_
    refine ⟨{ x : Nat × List Int // x.1 ≤ i ∧ x.2.Perm S ∧ DownI x.2 i x.1 }, fun x => ⟨frL [(0, .row 0), (1, di 0), (2, di S.length), (6, di i), (7, di x.1.1)], hpL [(0, .row 2 1 S.length (intsF x.1.2))], 1, 1⟩, fun x => x.1.1, ⟨(i, T), by omega, hT, hU.down⟩,
      le_of [] rfl rfl rfl rfl (tellHp_row rfl rfl rfl (fun i hi => rfl) tellHp_nil) (tellFr_row rfl rfl (tellFr_v rfl rfl (tellFr_v rfl rfl (tellFr_v rfl rfl (tellFr_v rfl rfl trivial))))), ?_⟩
    rintro ⟨⟨j, U⟩, hj, hUp, hD⟩
    simp only at hj hUp hD
    have hUl := hUp.length_eq
    by_cases h2 : 0 < j
    · have ew : IntKind.i64.wrap ((j : Int) - 1) = ((j - 1 : Nat) : Int) := by rw [wrap_i64 _ (by omega) (by omega)]; omega
      have e2 : (IntKind.i64.wrap ((j : Int) - 1)).toNat = j - 1 := by rw [ew]; rfl
      have c1 := c_cmp_Less_int64 (U.getD j 0) (U.getD (IntKind.i64.wrap ((j : Int) - 1)).toNat 0)
      by_cases h3 : U.getD j 0 < U.getD (j - 1) 0
      · refine bsplit_of_true (decide_eq_true (show (j : Int) > 0 by omega)) ?_
        repeat' (first | refine bsplit_true ?_ | refine bsplit_false ?_)
        refine ask_intro ⟨by omega, by show (j : Int) < (S.length : Int); omega⟩ ?_
        repeat' (first | refine bsplit_true ?_ | refine bsplit_false ?_)
        refine ask_intro (by show j < S.length; omega) ?_
        repeat' (first | refine bsplit_true ?_ | refine bsplit_false ?_)
        refine ask_intro ⟨by rw [ew]; omega, by show IntKind.i64.wrap ((j : Int) - 1) < (S.length : Int); rw [ew]; omega⟩ ?_
        repeat' (first | refine bsplit_true ?_ | refine bsplit_false ?_)
        refine ask_intro (by show (IntKind.i64.wrap ((j : Int) - 1)).toNat < S.length; omega) ?_
        repeat' (first | refine bsplit_true ?_ | refine bsplit_false ?_)
        refine .inl ⟨_, _, rfl, c1, rfl, ?_⟩
        repeat' (first | refine bsplit_true ?_ | refine bsplit_false ?_)
        refine chk_intro (by kernel_rfl) ?_
        refine bsplit_of_true (decide_eq_true (by rw [e2]; exact h3)) ?_
        refine ask_intro ⟨by rw [ew]; omega, by show IntKind.i64.wrap ((j : Int) - 1) < (S.length : Int); rw [ew]; omega⟩ ?_
        refine ask_intro (by show (IntKind.i64.wrap ((j : Int) - 1)).toNat < S.length; omega) ?_
        refine ask_intro ⟨by omega, by show (j : Int) < (S.length : Int); omega⟩ ?_
        refine ask_intro (by show j < S.length; omega) ?_
        refine ask_intro ⟨by omega, by show (j : Int) < (S.length : Int); omega⟩ ?_
        refine ask_intro (by show j < S.length; omega) ?_
        refine ask_intro ⟨by rw [ew]; omega, by show IntKind.i64.wrap ((j : Int) - 1) < (S.length : Int); rw [ew]; omega⟩ ?_
        refine ask_intro (by show (IntKind.i64.wrap ((j : Int) - 1)).toNat < S.length; omega) ?_
        refine chk_intro (by kernel_rfl) ?_
        exact ⟨⟨(j - 1, swapL U j), by show j - 1 ≤ i; omega, (swapL_perm U j h2 (by omega)).trans hUp, hD.step h2 hj (by omega) h3⟩, le_of [] rfl rfl rfl rfl (tellHp_row rfl rfl rfl (fun q hq => swap_hit h2 (show j < U.length by omega) _ e2 q) tellHp_nil) (tellFr_row rfl rfl (tellFr_v rfl rfl (tellFr_v rfl rfl (tellFr_v rfl rfl (tellFr_v rfl (congrArg (Value.int .i64) ew) trivial))))), by show j - 1 < j; omega⟩
      · refine bsplit_of_true (decide_eq_true (show (j : Int) > 0 by omega)) ?_
        repeat' (first | refine bsplit_true ?_ | refine bsplit_false ?_)
        refine ask_intro ⟨by omega, by show (j : Int) < (S.length : Int); omega⟩ ?_
        repeat' (first | refine bsplit_true ?_ | refine bsplit_false ?_)
        refine ask_intro (by show j < S.length; omega) ?_
        repeat' (first | refine bsplit_true ?_ | refine bsplit_false ?_)
        refine ask_intro ⟨by rw [ew]; omega, by show IntKind.i64.wrap ((j : Int) - 1) < (S.length : Int); rw [ew]; omega⟩ ?_
        repeat' (first | refine bsplit_true ?_ | refine bsplit_false ?_)
        refine ask_intro (by show (IntKind.i64.wrap ((j : Int) - 1)).toNat < S.length; omega) ?_
        repeat' (first | refine bsplit_true ?_ | refine bsplit_false ?_)
        refine .inl ⟨_, _, rfl, c1, rfl, ?_⟩
        repeat' (first | refine bsplit_true ?_ | refine bsplit_false ?_)
        refine chk_intro (by kernel_rfl) ?_
        refine bsplit_of_false (decide_eq_false (by rw [e2]; exact h3)) ?_
        exact ⟨⟨(i + 1, U), by show 1 ≤ i + 1; omega, .inl (by show i + 1 ≤ S.length; omega), hUp, hD.done hj (fun _ => h3)⟩, le_of [] rfl rfl rfl rfl (tellHp_row rfl rfl rfl (fun q hq => rfl) tellHp_nil) (tellFr_row rfl rfl (tellFr_v rfl rfl (tellFr_v rfl rfl (tellFr_v rfl hwi trivial)))), by show S.length - (i + 1) < S.length - i; omega⟩
    · refine bsplit_of_false (decide_eq_false (show ¬ (j : Int) > 0 by omega)) ?_
      repeat' (first | refine bsplit_true ?_ | refine bsplit_false ?_)
      refine chk_intro (by kernel_rfl) ?_
      refine bsplit_false ?_
      exact ⟨⟨(i + 1, U), by show 1 ≤ i + 1; omega, .inl (by show i + 1 ≤ S.length; omega), hUp, hD.done hj (fun h => absurd h h2)⟩, le_of [] rfl rfl rfl rfl (tellHp_row rfl rfl rfl (fun q hq => rfl) tellHp_nil) (tellFr_row rfl rfl (tellFr_v rfl rfl (tellFr_v rfl rfl (tellFr_v rfl hwi trivial)))), by show S.length - (i + 1) < S.length - i; omega⟩
  · have hs : T = R := sorted_uniq (hT.trans hp) (UpI.sorted fun p q hpq hq => hU p q hpq (by omega)) hR
    subst hs
    refine bsplit_of_false (decide_eq_false (show ¬ (i : Int) < (S.length : Int) by omega)) ?_
    refine chk_intro (by kernel_rfl) ⟨trivial, tellHp_row rfl rfl hlen (fun j hj => rfl) tellHp_nil⟩
theorem wrap_u8s (n : Int) (h1 : 0 ≤ n) (h2 : n < 256) : IntKind.u8.wrap n = n := by rw [IntKind.wrap_u8]; omega
theorem c_bits_Len64 (n : Int) (h1 : 0 ≤ n) (h2 : n ≤ 200) : FnS Try.prog 149 [.d (.v (.int .u64 n))] (fun r => ∃ k, r = ri k) := by
  have e := wrap_u8s n h1 (by omega)
  refine fnS_fn_of lv149 Try.func149 rfl rfl (by kernel_rfl) rfl ?_
  refine bsplit_of_false (decide_eq_false (by omega)) ?_
  refine bsplit_of_false (decide_eq_false (by omega)) ?_
  refine bsplit_of_false (decide_eq_false (by omega)) ?_
  refine ask_intro ⟨by rw [e]; exact h1, by rw [e]; exact Int.lt_of_le_of_lt h2 (of_decide_eq_true (by kernel_rfl))⟩ ?_
  exact ⟨_, ⟨_, rfl⟩, ⟨rfl, trivial⟩, rfl⟩
theorem c_bits_Len (n : Int) (h1 : 0 ≤ n) (h2 : n ≤ 200) : FnS Try.prog 137 [.d (.v (.int .u64 n))] (fun r => ∃ k, r = ri k) := by
  have c1 := c_bits_Len64 n h1 h2
  refine fnS_fn_of lv137 Try.func137 rfl rfl (by kernel_rfl) rfl ?_
  repeat' (first | refine bsplit_true ?_ | refine bsplit_false ?_)
  refine .inr ⟨rfl, use_fn ⟨_, _, rfl, c1, ?_⟩⟩
  rintro _ ⟨k, rfl⟩
  refine ⟨rfl, ?_⟩
  exact ⟨_, ⟨_, rfl⟩, ⟨rfl, trivial⟩, rfl⟩
theorem c_slices_pdqsort (S R : List Int) (k : Int) (hp : S.Perm R) (hR : R.Pairwise (· ≤ ·)) (hl : S.length ≤ 12) : MutOK Try.prog 136 [.row 0, di 0, di S.length, di k] 1 [(0, rowE S)] (.tup []) 1 [(0, rowE R)] := by
  have hlen := hp.length_eq
  have c1 := c_slices_insertionSort S R hp hR (by omega)
  have ew : IntKind.i64.wrap ((S.length : Int) - 0) = (S.length : Int) := by rw [wrap_i64 _ (by omega) (by omega)]; omega
  refine mut_fn_of lv136 Try.func136 rfl rfl (by kernel_rfl) rfl [] ?_
  refine ⟨Unit, fun _ => ⟨frL [(0, .row 0), (1, di 0), (2, di S.length), (3, di k), (8, .d (.v (.bool true))), (9, .d (.v (.bool true)))], hpL [(0, rowE S)], 1, 1⟩, fun _ => 0, (),
    le_of [] rfl rfl rfl rfl (tellHp_row rfl rfl rfl (fun i hi => rfl) tellHp_nil) (tellFr_row rfl rfl (tellFr_v rfl rfl (tellFr_v rfl rfl (tellFr_v rfl rfl (tellFr_v rfl rfl (tellFr_v rfl rfl trivial)))))), ?_⟩
  rintro ⟨⟩
  refine bsplit_of_true (decide_eq_true (by show IntKind.i64.wrap ((S.length : Int) - 0) ≤ 12; rw [ew]; omega)) ?_
  refine .inr ⟨rfl, use_mut ⟨_, _, _, _, _, _, rfl, rfl, c1, rfl, ?_⟩⟩
  exact chk_intro (by kernel_rfl) ⟨trivial, tellHp_row rfl rfl rfl (fun j hj => rfl) tellHp_nil⟩
theorem c_slices_Sort_int64 (S R : List Int) (hp : S.Perm R) (hR : R.Pairwise (· ≤ ·)) (hl : S.length ≤ 12) : MutOK Try.prog 126 [.row 0] 1 [(0, rowE S)] (.tup []) 1 [(0, rowE R)] := by
  have ew : IntKind.u64.wrap (S.length : Int) = (S.length : Int) := by rw [IntKind.wrap_u64]; omega
  have c1 := c_bits_Len (S.length : Int) (by omega) (by omega)
  rw [← ew] at c1
  have c2 := fun k => c_slices_pdqsort S R k hp hR hl
  refine mut_fn_of lv126 Try.func126 rfl rfl (by kernel_rfl) rfl [] ?_
  refine .inr ⟨rfl, use_fn ⟨_, _, rfl, c1, ?_⟩⟩
  rintro _ ⟨k, rfl⟩
  refine ⟨rfl, ?_⟩
  refine .inr ⟨rfl, use_mut ⟨_, _, _, _, _, _, rfl, rfl, c2 k, rfl, ?_⟩⟩
  exact chk_intro (by kernel_rfl) ⟨trivial, tellHp_row rfl rfl rfl (fun j hj => rfl) tellHp_nil⟩
end Go.Proofs.Ytdpahckfibnagaa.L

/- Who reaches a guest: the program. -/
set_option linter.unusedVariables false
set_option linter.unusedSimpArgs false
set_option maxRecDepth 100000
namespace Go.Proofs.Ytdpahckfibnagaa.L
open Go.RowKit
/-- R are the numbers from which links lead to g -/
structure ReachI (x : PolM) (g : Int) (R : List Int) : Prop where
  base : ∀ a ∈ linksL x g, a ∈ R
  step : ∀ a ∈ R, ∀ b ∈ linksL x a, b ∈ R
  least : ∀ C : List Int, (∀ a ∈ linksL x g, a ∈ C) → (∀ a ∈ C, ∀ b ∈ linksL x a, b ∈ C) → ∀ a ∈ R, a ∈ C
  rise : R.Pairwise (· < ·)
  few : R.length ≤ 12
theorem nodup_len {S R : List Int} (h : S.Nodup) (hs : ∀ a ∈ S, a ∈ R) : S.length ≤ R.length := by
  induction S generalizing R with
  | nil => simp
  | cons a S ih =>
    obtain ⟨h1, h2⟩ := List.nodup_cons.1 h
    have ha := hs a (by simp)
    have := ih (R := R.erase a) h2 (fun b hb => by
      have hb2 := hs b (List.mem_cons_of_mem _ hb)
      have hne : b ≠ a := by rintro rfl; exact h1 hb
      exact (List.mem_erase_of_ne hne).2 hb2)
    have := List.length_erase_of_mem ha
    have : 0 < R.length := List.length_pos_of_mem ha
    simp only [List.length_cons]
    omega
theorem rising_nodup {R : List Int} (h : R.Pairwise (· < ·)) : R.Nodup := List.Pairwise.imp (fun {a b} hab => by omega) h
theorem rising_sorted {R : List Int} (h : R.Pairwise (· < ·)) : R.Pairwise (· ≤ ·) := List.Pairwise.imp (fun {a b} hab => by omega) h
theorem hasI_mem {l : List Int} {v : Int} : hasI l v = true ↔ v ∈ l := by
  unfold hasI
  simp
theorem nodup_snoc {S : List Int} {v : Int} (h : S.Nodup) (hv : v ∉ S) : (S ++ [v]).Nodup := by
  rw [List.nodup_append]
  exact ⟨h, by simp, fun a ha b hb => by simp at hb; subst hb; rintro rfl; exact hv ha⟩
set_option maxHeartbeats 3200000 in
theorem c_impl_reachTo (x : PolM) (hs : x.small) (g : Int) (R : List Int) (hR : ReachI x g R) : FnOK Try.prog 94 [polP x, di g] (.r (.one (oInts R))) := by
  have c0 := c_impl_linksTo x hs g
  have hfew := hR.few
  have hnd : (linksL x g).Nodup := rising_nodup freeR_rising
  refine fn_of lv94 Try.func94 rfl rfl (by kernel_rfl) rfl ?_
  refine .inl ⟨_, _, rfl, c0, rfl, ?_⟩
  refine ⟨{ p : Nat × List Int // p.1 ≤ p.2.length ∧ p.2.Nodup ∧ (∀ a ∈ p.2, a ∈ R) ∧ (∀ a ∈ linksL x g, a ∈ p.2) ∧ ∀ j, j < p.1 → ∀ b ∈ linksL x (p.2.getD j 0), b ∈ p.2 }, fun p => ⟨frL [(0, polP x), (5, .row 66), (6, di p.1.1)], hpL [(66, rowE p.1.2)], 97, 0⟩, fun p => R.length - p.1.1,
    ⟨(0, linksL x g), by omega, hnd, hR.base, fun a h => h, fun j hj => absurd hj (Nat.not_lt_zero _)⟩,
    le_of [(66, 4160)] rfl rfl rfl rfl (tellHp_row rfl rfl rfl (fun j hj => rfl) tellHp_nil) (tellFr_x rfl ⟨DLe.refl _, DLe.refl _, DLe.refl _, DLe.refl _, trivial⟩ (tellFr_row rfl rfl (tellFr_v rfl rfl trivial))), ?_⟩
  rintro ⟨⟨i, S⟩, hi, hnS, hSR, hbS, hcS⟩
  simp only at hi hnS hSR hbS hcS
  have hlS := nodup_len hnS hSR
  by_cases h1 : i < S.length
  · have c1 := c_impl_linksTo x hs (S.getD i 0)
    have hwi := congrArg (Value.int .i64) (wrap1 h1 (by omega))
    have hSi : S.getD i 0 ∈ S := by rw [getD_at 0 h1]; exact List.getElem_mem _
    have hlk := hR.step _ (hSR _ hSi)
    obtain ⟨lk, hlkd⟩ : ∃ lk, lk = linksL x (S.getD i 0) := ⟨_, rfl⟩
    have hlkn : lk.length ≤ R.length := by rw [hlkd]; exact nodup_len (rising_nodup freeR_rising) hlk
    rw [← hlkd] at c1 hlk
    refine bsplit_of_true (decide_eq_true (show (i : Int) < (S.length : Int) by omega)) ?_
    refine ask_intro ⟨by omega, by show (i : Int) < (S.length : Int); omega⟩ ?_
    refine ask_intro (by show i < S.length; exact h1) ?_
    refine .inl ⟨_, _, rfl, c1, rfl, ?_⟩
    refine ⟨{ p : Nat × List Int // p.1 ≤ lk.length ∧ p.2.Nodup ∧ (∀ a ∈ p.2, a ∈ R) ∧ (∀ a ∈ S, a ∈ p.2) ∧ (∀ j, j < S.length → p.2.getD j 0 = S.getD j 0) ∧ ∀ j, j < p.1 → lk.getD j 0 ∈ p.2 }, fun p => ⟨frL [(0, polP x), (5, .row 66), (6, di i), (23, .d (ints lk)), (24, di lk.length), (25, di p.1.1)], hpL [(66, rowE p.1.2)], 97, 0⟩, fun p => lk.length - p.1.1,
      ⟨(0, S), by omega, hnS, hSR, fun a h => h, fun j hj => rfl, fun j hj => absurd hj (Nat.not_lt_zero _)⟩,
      le_of [(66, 66)] rfl rfl rfl rfl (tellHp_row rfl rfl rfl (fun j hj => rfl) tellHp_nil) (tellFr_x rfl ⟨DLe.refl _, DLe.refl _, DLe.refl _, DLe.refl _, trivial⟩ (tellFr_row rfl rfl (tellFr_v rfl rfl (tellFr_x rfl (tellV_frz rfl rfl rfl (DLe.refl _)) (tellFr_v rfl rfl (tellFr_v rfl rfl trivial)))))), ?_⟩
    rintro ⟨⟨k, U⟩, hk, hnU, hUR, hSU, hpre, hin⟩
    simp only at hk hnU hUR hSU hpre hin
    have hlU := nodup_len hnU hUR
    have hlSU := nodup_len hnS hSU
    by_cases h2 : k < lk.length
    · have hwk := congrArg (Value.int .i64) (wrap1 h2 (by omega))
      have hm : lk.getD k 0 ∈ lk := by rw [getD_at 0 h2]; exact List.getElem_mem _
      have c2 := c_slices_Contains_int64 U (lk.getD k 0) (by omega)
      refine bsplit_of_true (decide_eq_true (show (k : Int) < (lk.length : Int) by omega)) ?_
      refine ask_intro ⟨by omega, by show (k : Int) < (lk.length : Int); omega, rfl⟩ ?_
      refine .inl ⟨_, _, rfl, c2, rfl, ?_⟩
      by_cases h3 : lk.getD k 0 ∈ U
      · refine bsplit_of_false (by rw [hasI_mem.2 h3]; rfl) ?_
        exact ⟨⟨(k + 1, U), by show k + 1 ≤ _; omega, hnU, hUR, hSU, hpre, fun j hj => if h : j = k then h ▸ h3 else hin j (by have : j < k + 1 := hj; omega)⟩, le_of [(66, 66)] rfl rfl rfl rfl (tellHp_row rfl rfl rfl (fun j hj => rfl) tellHp_nil) (tellFr_x rfl ⟨DLe.refl _, DLe.refl _, DLe.refl _, DLe.refl _, trivial⟩ (tellFr_row rfl rfl (tellFr_v rfl rfl (tellFr_d rfl (DLe.refl _) (tellFr_v rfl rfl (tellFr_v rfl hwk trivial)))))), by show lk.length - (k + 1) < lk.length - k; omega⟩
      · have hf : hasI U (lk.getD k 0) = false := by
          cases e : hasI U (lk.getD k 0) with
          | false => rfl
          | true => exact absurd (hasI_mem.1 e) h3
        have hn2 := nodup_snoc hnU h3
        refine bsplit_of_true (by rw [hf]; rfl) ?_
        refine ask_intro ⟨by show (U.length + 1) * 8 ≤ _; omega, by show U.length + 1 ≤ 9223372036854775807; omega, fun q hq => ?_⟩ ?_
        · obtain rfl : q = 0 := by omega
          rfl
        exact ⟨⟨(k + 1, U ++ [lk.getD k 0]), by show k + 1 ≤ _; omega, hn2, fun a ha => (List.mem_append.1 ha).elim (hUR a) (fun h => by simp at h; subst h; exact hlk _ hm), fun a ha => List.mem_append_left _ (hSU a ha),
          fun j hj => by rw [← hpre j hj]; simp only [List.getD]; rw [List.getElem?_append_left (by omega)],
          fun j hj => if h : j = k then h ▸ List.mem_append_right _ (by simp) else List.mem_append_left _ (hin j (by have : j < k + 1 := hj; omega))⟩,
          le_of [(66, 12481)] rfl rfl rfl rfl (tellHp_row rfl rfl (show U.length + 1 = (U ++ [lk.getD k 0]).length by simp) (fun q hq => upto_snoc U _ _ rfl q hq) tellHp_nil) (tellFr_x rfl ⟨DLe.refl _, DLe.refl _, DLe.refl _, DLe.refl _, trivial⟩ (tellFr_row rfl rfl (tellFr_v rfl rfl (tellFr_d rfl (DLe.refl _) (tellFr_v rfl rfl (tellFr_v rfl hwk trivial)))))), by show lk.length - (k + 1) < lk.length - k; omega⟩
    · have hnext : ∀ j, j < i + 1 → ∀ b ∈ linksL x (U.getD j 0), b ∈ U := by
        intro j hj b hb
        rw [hpre j (by omega)] at hb
        by_cases e : j = i
        · subst e
          rw [← hlkd] at hb
          obtain ⟨q, hq, rfl⟩ := List.getElem_of_mem hb
          rw [← getD_at 0 hq]
          exact hin q (by omega)
        · exact hSU b (hcS j (by omega) b hb)
      refine bsplit_of_false (decide_eq_false (show ¬ (k : Int) < (lk.length : Int) by omega)) ?_
      exact ⟨⟨(i + 1, U), by show i + 1 ≤ U.length; omega, hnU, hUR, fun a ha => hSU a (hbS a ha), hnext⟩, le_of [(66, 66)] rfl rfl rfl rfl (tellHp_row rfl rfl rfl (fun j hj => rfl) tellHp_nil) (tellFr_x rfl ⟨DLe.refl _, DLe.refl _, DLe.refl _, DLe.refl _, trivial⟩ (tellFr_row rfl rfl (tellFr_v rfl hwi trivial))), by show R.length - (i + 1) < R.length - i; omega⟩
  · have hcl : ∀ a ∈ S, ∀ b ∈ linksL x a, b ∈ S := fun a ha b hb => by
      obtain ⟨q, hq, rfl⟩ := List.getElem_of_mem ha
      rw [← getD_at 0 hq] at hb
      exact hcS q (by omega) b hb
    have hp : S.Perm R := (List.perm_ext_iff_of_nodup hnS (rising_nodup hR.rise)).2 fun a => ⟨hSR a, hR.least S hbS hcl a⟩
    have c3 := c_slices_Sort_int64 S R hp (rising_sorted hR.rise) (by omega)
    refine bsplit_of_false (decide_eq_false (show ¬ (i : Int) < (S.length : Int) by omega)) ?_
    refine .inr ⟨rfl, use_mut ⟨_, _, _, _, _, _, rfl, rfl, c3, rfl, ?_⟩⟩
    exact ⟨⟨⟨rfl, rfl, rfl, fun j hj => ⟨rfl, rfl⟩⟩, trivial⟩, rfl⟩
def reachTo (x : PolM) (g : Int) (R : List Int) : Int × List Int := if askedG x g = 0 then (0, R) else (askedG x g, [])
theorem c_impl_ReachToR (x : PolM) (hs : x.small) (g : Int) (R : List Int) (hR : askedG x g = 0 → ReachI x g R) : FnOK Try.prog 43 [polLV x, di g] (.r (irsR (reachTo x g R))) := by
  have c1 := c_impl_guestFault x hs g
  have c2 := fun h => c_impl_reachTo x hs g R (hR h)
  obtain ⟨r, hr⟩ : ∃ r, r = reachTo x g R := ⟨_, rfl⟩
  rw [← hr]
  unfold reachTo at hr
  generalize askedG x g = e at *
  refine fn_of lv43 Try.func43 rfl rfl (by kernel_rfl) rfl ?_
  refine .inl ⟨_, _, rfl, c1, rfl, ?_⟩
  refine bsplit_intro (fun h => ?_) (fun h => ?_)
  · rw [if_neg (by simpa using h)] at hr
    subst hr
    exact ⟨⟨rfl, ⟨rfl, rfl⟩, trivial⟩, rfl⟩
  have he : e = 0 := by simpa using h
  have c2 := c2 he
  rw [if_pos he] at hr
  subst hr
  refine .inl ⟨_, _, rfl, c2, rfl, ?_⟩
  exact ⟨⟨rfl, ⟨rfl, rfl, rfl, fun j hj => ⟨rfl, rfl⟩⟩, trivial⟩, rfl⟩
end Go.Proofs.Ytdpahckfibnagaa.L

/- Who reaches a guest: the reference, and the plain law. -/
set_option linter.unusedVariables false
set_option linter.unusedSimpArgs false
set_option maxRecDepth 100000
namespace Go.Proofs.Ytdpahckfibnagaa.L
open Go.RowKit
/-- rising numbers of 0 to n - 1 -/
def Bd (n : Nat) (T : List Int) : Prop := T.Pairwise (· < ·) ∧ ∀ a ∈ T, 0 ≤ a ∧ a < (n : Int)
theorem Bd.len {n : Nat} {T : List Int} (h : Bd n T) : T.length ≤ n := by
  have := nodup_len (S := T) (R := (List.range n).map fun (i : Nat) => (i : Int)) (rising_nodup h.1) (fun a ha => by
    have := h.2 a ha
    exact List.mem_map.2 ⟨a.toNat, List.mem_range.2 (by omega), by omega⟩)
  simpa using this
theorem Bd.rise {n : Nat} {T : List Int} {v : Int} (h : Bd n T) (h0 : 0 ≤ v ∧ v < (n : Int)) : Bd n (rise T v) := ⟨rise_rising h.1, fun a ha => (mem_rise.1 ha).elim (h.2 a) (fun e => e ▸ h0)⟩
def addK (x : PolM) (T : List Int) (a : Int) : List Int := (linkS x a).foldl rise T
def roundS (x : PolM) (S : List Int) : List Int := S.foldl (addK x) S
def reachS (x : PolM) (g : Int) : List Int := roundS x (roundS x (roundS x (linkS x g)))
theorem fold_rise {n : Nat} : ∀ {l T : List Int}, Bd n T → (∀ a ∈ l, 0 ≤ a ∧ a < (n : Int)) → Bd n (l.foldl Go.Proofs.Ytdpahckfibnagaa.L.rise T) ∧ ∀ a, a ∈ l.foldl Go.Proofs.Ytdpahckfibnagaa.L.rise T ↔ a ∈ T ∨ a ∈ l
  | [], T, h, _ => ⟨h, fun a => by simp⟩
  | v :: l, T, h, hl => by
    obtain ⟨h1, h2⟩ := fold_rise (l := l) (h.rise (hl v (by simp))) (fun a ha => hl a (List.mem_cons_of_mem _ ha))
    refine ⟨h1, fun a => ?_⟩
    rw [List.foldl_cons, h2, mem_rise, List.mem_cons, or_assoc]
/-- all links lead from guests -/
def LkOK (x : PolM) : Prop := ∀ g a, linked x a g = true → 0 ≤ a ∧ a < (x.own.length : Int)
theorem linkS_bd {x : PolM} (h : LkOK x) (g : Int) : Bd x.own.length (linkS x g) := ⟨foldB_rising g _ _ (foldL_rising g _ _ List.Pairwise.nil), fun a ha => h g a (mem_linkS.1 ha)⟩
theorem addK_bd {x : PolM} (h : LkOK x) {T : List Int} (hT : Bd x.own.length T) (a : Int) : Bd x.own.length (addK x T a) ∧ ∀ b, b ∈ addK x T a ↔ b ∈ T ∨ b ∈ linkS x a :=
  fold_rise hT (linkS_bd h a).2
theorem fold_addK {x : PolM} (h : LkOK x) : ∀ {l T : List Int}, Bd x.own.length T → Bd x.own.length (l.foldl (addK x) T) ∧ ∀ b, b ∈ l.foldl (addK x) T ↔ b ∈ T ∨ ∃ a ∈ l, b ∈ linkS x a
  | [], T, hT => ⟨hT, fun b => by simp⟩
  | v :: l, T, hT => by
    obtain ⟨h1, h2⟩ := fold_addK h (l := l) (addK_bd h hT v).1
    refine ⟨h1, fun b => ?_⟩
    rw [List.foldl_cons, h2, (addK_bd h hT v).2]
    simp [or_assoc]
theorem roundS_bd {x : PolM} (h : LkOK x) {S : List Int} (hS : Bd x.own.length S) : Bd x.own.length (roundS x S) ∧ ∀ b, b ∈ roundS x S ↔ b ∈ S ∨ ∃ a ∈ S, b ∈ linkS x a := fold_addK h hS
def Cl (x : PolM) (S : List Int) : Prop := ∀ a ∈ S, ∀ b ∈ linkS x a, b ∈ S
theorem roundS_cl {x : PolM} (h : LkOK x) {S : List Int} (hS : Bd x.own.length S) (hc : Cl x S) : roundS x S = S :=
  rising_ext _ _ (roundS_bd h hS).1.1 hS.1 fun b => ((roundS_bd h hS).2 b).trans ⟨fun h => h.elim id (fun ⟨a, ha, hb⟩ => hc a ha b hb), .inl⟩
theorem roundS_more {x : PolM} (h : LkOK x) {S : List Int} (hS : Bd x.own.length S) (hc : ¬ Cl x S) : S.length < (roundS x S).length := by
  obtain ⟨h1, h2⟩ := roundS_bd h hS
  have hle := nodup_len (rising_nodup hS.1) (fun a ha => (h2 a).2 (.inl ha))
  rcases Nat.lt_or_ge S.length (roundS x S).length with h3 | h3
  · exact h3
  · exfalso
    refine hc fun a ha b hb => ?_
    rcases Decidable.em (b ∈ S) with hm | hm
    · exact hm
    exfalso
    have := nodup_len (R := roundS x S) (nodup_snoc (rising_nodup hS.1) hm) (fun c hcm => (h2 c).2 ((List.mem_append.1 hcm).elim .inl (fun e => by simp at e; subst e; exact .inr ⟨a, ha, hb⟩)))
    simp at this
    omega
theorem round3_cl {x : PolM} (h : LkOK x) (hn : x.own.length ≤ 3) {S : List Int} (hS : Bd x.own.length S) : Cl x (roundS x (roundS x (roundS x S))) := by
  have b1 := (roundS_bd h hS).1
  have b2 := (roundS_bd h b1).1
  have b3 := (roundS_bd h b2).1
  have l3 := b3.len
  rcases Classical.em (Cl x S) with c0 | c0
  · rw [roundS_cl h hS c0, roundS_cl h hS c0, roundS_cl h hS c0]; exact c0
  have m0 := roundS_more h hS c0
  rcases Classical.em (Cl x (roundS x S)) with c1 | c1
  · rw [roundS_cl h b1 c1, roundS_cl h b1 c1]; exact c1
  have m1 := roundS_more h b1 c1
  rcases Classical.em (Cl x (roundS x (roundS x S))) with c2 | c2
  · rw [roundS_cl h b2 c2]; exact c2
  have m2 := roundS_more h b2 c2
  have : 0 < S.length := by
    rcases Nat.eq_zero_or_pos S.length with e | e
    · exact absurd (fun a ha => by rw [List.length_eq_zero_iff.1 e] at ha; simp at ha) c0
    · exact e
  omega
theorem roundS_least {x : PolM} (h : LkOK x) {S C : List Int} (hS : Bd x.own.length S) (h1 : ∀ a ∈ S, a ∈ C) (h2 : Cl x C) : ∀ a ∈ roundS x S, a ∈ C := fun b hb =>
  (((roundS_bd h hS).2 b).1 hb).elim (h1 b) (fun ⟨a, ha, hb⟩ => h2 a (h1 a ha) b hb)
theorem reachS_I {x : PolM} (h : LkOK x) (hn : x.own.length ≤ 3) (g : Int) : ReachI x g (reachS x g) := by
  have e : ∀ a, linkS x a = linksL x a := fun a => links_eq (fun b hb => h a b hb)
  have b0 := linkS_bd h g
  have b1 := (roundS_bd h b0).1
  have b2 := (roundS_bd h b1).1
  have b3 := (roundS_bd h b2).1
  have hcl := round3_cl h hn b0
  refine ⟨fun a ha => ?_, fun a ha b hb => ?_, fun C h1 h2 => ?_, b3.1, by have := b3.len; show (reachS x g).length ≤ 12; unfold reachS; omega⟩
  · rw [← e] at ha
    exact ((roundS_bd h b2).2 a).2 (.inl (((roundS_bd h b1).2 a).2 (.inl (((roundS_bd h b0).2 a).2 (.inl ha)))))
  · rw [← e] at hb
    exact hcl a ha b hb
  · have hC : Cl x C := fun a ha b hb => h2 a ha b (by rw [← e]; exact hb)
    exact roundS_least h b2 (roundS_least h b1 (roundS_least h b0 (fun a ha => h1 a (by rw [← e]; exact ha)) hC) hC) hC
set_option maxHeartbeats 3200000 in
theorem c_spec_l6Reach (x : PolM) (hl : x.lns.length ≤ 4) (hb : x.bls.length ≤ 4) (h : LkOK x) (hn : x.own.length ≤ 3) (g : Int) : FnOK Try.prog 93 [polP x, di g] (.r (.one (.sh (ints (reachS x g))))) := by
  have c0 := c_spec_l6Links x hl hb g
  obtain ⟨V, hV⟩ : ∃ V, V = reachS x g := ⟨_, rfl⟩
  rw [← hV]
  unfold reachS at hV
  refine fn_of lv93 Try.func93 rfl rfl (by kernel_rfl) rfl ?_
  refine .inl ⟨_, _, rfl, c0, rfl, ?_⟩
  refine ⟨{ p : Nat × List Int // Bd x.own.length p.2 ∧ ((p.1 = 0 ∧ roundS x (roundS x (roundS x p.2)) = V) ∨ (p.1 = 1 ∧ roundS x (roundS x p.2) = V) ∨ (p.1 = 2 ∧ roundS x p.2 = V) ∨ (p.1 = 3 ∧ p.2 = V)) }, fun p => ⟨frL [(0, polP x), (5, .d (ints p.1.2)), (6, di p.1.1)], hpL [], 97, 0⟩, fun p => 3 - p.1.1, ⟨(0, linkS x g), linkS_bd h g, .inl ⟨rfl, hV.symm⟩⟩,
    le_of [] rfl rfl rfl rfl trivial (tellFr_x rfl ⟨DLe.refl _, DLe.refl _, DLe.refl _, DLe.refl _, trivial⟩ (tellFr_d rfl (DLe.refl _) (tellFr_v rfl rfl trivial))), ?_⟩
  rintro ⟨⟨n, S⟩, hS, hall⟩
  simp only at hS hall
  have hSl := hS.len
  by_cases h1 : n < 3
  · have hwn := congrArg (Value.int .i64) (wrap1 h1 (by omega))
    have hnx : (n + 1 = 1 ∧ roundS x (roundS x (roundS x S)) = V) ∨ (n + 1 = 2 ∧ roundS x (roundS x S) = V) ∨ (n + 1 = 3 ∧ roundS x S = V) := by
      rcases hall with e | e | e | e
      · exact .inl ⟨by omega, e.2⟩
      · exact .inr (.inl ⟨by omega, e.2⟩)
      · exact .inr (.inr ⟨by omega, e.2⟩)
      · omega
    have hRb := (roundS_bd h hS).1
    obtain ⟨R, hR⟩ : ∃ R, R = roundS x S := ⟨_, rfl⟩
    rw [← hR] at hnx hRb
    unfold roundS at hR
    refine bsplit_of_true (decide_eq_true (show (n : Int) < 3 by omega)) ?_
    refine ⟨{ p : Nat × List Int // p.1 ≤ S.length ∧ Bd x.own.length p.2 ∧ (S.drop p.1).foldl (addK x) p.2 = R }, fun p => ⟨frL [(0, polP x), (5, .d (ints S)), (6, di n), (7, .d (ints p.1.2)), (8, di p.1.1)], hpL [], 97, 0⟩, fun p => S.length - p.1.1, ⟨(0, S), by omega, hS, hR.symm⟩,
      le_of [] rfl rfl rfl rfl trivial (tellFr_x rfl ⟨DLe.refl _, DLe.refl _, DLe.refl _, DLe.refl _, trivial⟩ (tellFr_d rfl (DLe.refl _) (tellFr_v rfl rfl (tellFr_d rfl (DLe.refl _) (tellFr_v rfl rfl trivial))))), ?_⟩
    rintro ⟨⟨i, T⟩, hi, hT, hTR⟩
    simp only at hi hT hTR
    have hTl := hT.len
    by_cases h2 : i < S.length
    · have hwi := congrArg (Value.int .i64) (wrap1 h2 (by omega))
      rw [drop_consG 0 S i h2, List.foldl_cons] at hTR
      have c1 := c_spec_l6Links x hl hb (S.getD i 0)
      have hmb := linkS_bd h (S.getD i 0)
      have hab := (addK_bd h hT (S.getD i 0)).1
      obtain ⟨A, hA⟩ : ∃ A, A = addK x T (S.getD i 0) := ⟨_, rfl⟩
      rw [← hA] at hTR hab
      unfold addK at hA
      obtain ⟨mo, hmo⟩ : ∃ mo, mo = linkS x (S.getD i 0) := ⟨_, rfl⟩
      rw [← hmo] at c1 hmb hA
      have hml := hmb.len
      refine bsplit_of_true (decide_eq_true (show (i : Int) < (S.length : Int) by omega)) ?_
      refine ask_intro ⟨by omega, by show (i : Int) < (S.length : Int); omega, rfl⟩ ?_
      refine .inl ⟨_, _, rfl, c1, rfl, ?_⟩
      refine ⟨{ p : Nat × List Int // p.1 ≤ mo.length ∧ Bd x.own.length p.2 ∧ (mo.drop p.1).foldl Go.Proofs.Ytdpahckfibnagaa.L.rise p.2 = A }, fun p => ⟨frL [(0, polP x), (5, .d (ints S)), (6, di n), (7, .d (ints p.1.2)), (8, di i), (9, .d (ints mo)), (10, di p.1.1)], hpL [], 97, 0⟩, fun p => mo.length - p.1.1, ⟨(0, T), by omega, hT, hA.symm⟩,
        le_of [] rfl rfl rfl rfl trivial (tellFr_x rfl ⟨DLe.refl _, DLe.refl _, DLe.refl _, DLe.refl _, trivial⟩ (tellFr_d rfl (DLe.refl _) (tellFr_v rfl rfl (tellFr_d rfl (DLe.refl _) (tellFr_v rfl rfl (tellFr_d rfl (DLe.refl _) (tellFr_v rfl rfl trivial))))))), ?_⟩
      rintro ⟨⟨k, U⟩, hk, hU, hUA⟩
      simp only at hk hU hUA
      have hUl := hU.len
      by_cases h3 : k < mo.length
      · have hwk := congrArg (Value.int .i64) (wrap1 h3 (by omega))
        have hin : 0 ≤ mo.getD k 0 ∧ mo.getD k 0 < (x.own.length : Int) := hmb.2 _ (by rw [getD_at 0 h3]; exact List.getElem_mem _)
        rw [drop_consG 0 mo k h3, List.foldl_cons] at hUA
        have c2 := c_spec_l1Rise U (mo.getD k 0) (by omega)
        refine bsplit_of_true (decide_eq_true (show (k : Int) < (mo.length : Int) by omega)) ?_
        refine ask_intro ⟨by omega, by show (k : Int) < (mo.length : Int); omega, rfl⟩ ?_
        refine .inl ⟨_, _, rfl, c2, rfl, ?_⟩
        exact ⟨⟨(k + 1, Go.Proofs.Ytdpahckfibnagaa.L.rise U (mo.getD k 0)), by show k + 1 ≤ _; omega, hU.rise hin, hUA⟩, le_of [] rfl rfl rfl rfl trivial (tellFr_x rfl ⟨DLe.refl _, DLe.refl _, DLe.refl _, DLe.refl _, trivial⟩ (tellFr_d rfl (DLe.refl _) (tellFr_v rfl rfl (tellFr_d rfl (DLe.refl _) (tellFr_v rfl rfl (tellFr_d rfl (DLe.refl _) (tellFr_v rfl hwk trivial))))))), by show mo.length - (k + 1) < mo.length - k; omega⟩
      · rw [List.drop_eq_nil_of_le (by omega)] at hUA
        have hUA : U = A := hUA
        subst hUA
        refine bsplit_of_false (decide_eq_false (show ¬ (k : Int) < (mo.length : Int) by omega)) ?_
        exact ⟨⟨(i + 1, U), by show i + 1 ≤ _; omega, hU, hTR⟩, le_of [] rfl rfl rfl rfl trivial (tellFr_x rfl ⟨DLe.refl _, DLe.refl _, DLe.refl _, DLe.refl _, trivial⟩ (tellFr_d rfl (DLe.refl _) (tellFr_v rfl rfl (tellFr_d rfl (DLe.refl _) (tellFr_v rfl hwi trivial))))), by show S.length - (i + 1) < S.length - i; omega⟩
    · rw [List.drop_eq_nil_of_le (by omega)] at hTR
      have hTR : T = R := hTR
      subst hTR
      refine bsplit_of_false (decide_eq_false (show ¬ (i : Int) < (S.length : Int) by omega)) ?_
      exact ⟨⟨(n + 1, T), hRb, .inr hnx⟩, le_of [] rfl rfl rfl rfl trivial (tellFr_x rfl ⟨DLe.refl _, DLe.refl _, DLe.refl _, DLe.refl _, trivial⟩ (tellFr_d rfl (DLe.refl _) (tellFr_v rfl hwn trivial))), by show 3 - (n + 1) < 3 - n; omega⟩
  · have hSV : S = V := by
      rcases hall with e | e | e | e
      · omega
      · omega
      · omega
      · exact e.2
    subst hSV
    refine bsplit_of_false (decide_eq_false (show ¬ (n : Int) < 3 by omega)) ?_
    exact ⟨⟨DLe.refl _, trivial⟩, rfl⟩
theorem own_few {x : PolM} (h : polFault x = 0) : x.own.length ≤ 3 := by
  unfold polFault at h
  split at h
  · rename_i ho
    unfold ownBad at ho
    cases hq : inR (x.own.length : Int) 1 3 with
    | false => rw [hq] at ho; simp at ho
    | true => have := inR_iff.1 hq; omega
  · rename_i ho; exact absurd h ho
theorem lkOK {x : PolM} (h : polFault x = 0) : LkOK x := fun g a hl => linked_guest h g a hl
def reachTo0 (x : PolM) (g : Int) : Int × List Int := reachTo x g (reachS x g)
theorem c_impl_ReachTo (x : PolM) (hs : x.small) (g : Int) : FnOK Try.prog 43 [polLV x, di g] (.r (irsR (reachTo0 x g))) :=
  c_impl_ReachToR x hs g _ fun h => reachS_I (lkOK (asked_pol h)) (own_few (asked_pol h)) g
theorem c_spec_ReachTo (x : PolM) (hs : x.small) (g : Int) : FnOK Try.prog 42 [polLV x, di g] (.r (irsSh (reachTo0 x g))) := by
  have c1 := c_spec_l6Asked x hs g
  obtain ⟨r, hr⟩ : ∃ r, r = reachTo0 x g := ⟨_, rfl⟩
  rw [← hr]
  unfold reachTo0 reachTo at hr
  by_cases h : askedG x g = 0
  · have hp := asked_pol h
    obtain ⟨q1, q2, _, _⟩ := pol_links hp
    have c2 := c_spec_l6Reach x q1 q2 (lkOK hp) (own_few hp) g
    rw [if_pos h] at hr
    rw [h] at c1
    subst hr
    refine fn_of lv42 Try.func42 rfl rfl (by kernel_rfl) rfl ?_
    refine .inl ⟨_, _, rfl, c1, rfl, ?_⟩
    repeat' (first | refine bsplit_true ?_ | refine bsplit_false ?_)
    refine .inl ⟨_, _, rfl, c2, rfl, ?_⟩
    exact ⟨⟨rfl, DLe.refl _, trivial⟩, rfl⟩
  · rw [if_neg h] at hr
    subst hr
    generalize askedG x g = e at *
    refine fn_of lv42 Try.func42 rfl rfl (by kernel_rfl) rfl ?_
    refine .inl ⟨_, _, rfl, c1, rfl, ?_⟩
    refine bsplit_of_true (by simpa using h) ?_
    exact ⟨⟨rfl, DLe.nil _, trivial⟩, rfl⟩
theorem reachTo0_few (x : PolM) (g : Int) : (reachTo0 x g).2.length ≤ 1048576 := by
  unfold reachTo0 reachTo
  split
  · rename_i h
    have := (reachS_I (lkOK (asked_pol h)) (own_few (asked_pol h)) g).few
    show (reachS x g).length ≤ _
    omega
  · simp
end Go.Proofs.Ytdpahckfibnagaa.L

/- What the law functions compute that mark policies: contracts. -/
set_option linter.unusedVariables false
set_option linter.unusedSimpArgs false
set_option maxRecDepth 100000
namespace Go.Proofs.Ytdpahckfibnagaa.L
open Go.RowKit
abbrev rowLane (l : List LaneM) : Ent := .row 84 5 l.length (lanesF l)
abbrev laneMk (k : Int) (j : Nat) : List D := [.v (.int .i64 (k + 5 * (j : Int))), .v (.int .i64 (k + 5 * (j : Int) + 1)), .v (.int .i64 (k + 5 * (j : Int) + 2)), .v (.int .i64 (k + 5 * (j : Int) + 3)), .v (.int .i64 (k + 5 * (j : Int) + 4))]
set_option maxHeartbeats 1600000 in
theorem c_laws_markLaneS (l : List LaneM) (k : Int) (hl : l.length ≤ 109951162777) (hk : 0 ≤ k) (hk2 : k ≤ 1099511627776) :
    MutOK Try.prog 87 [.row 0, di k] 1 [(0, rowLane l)] (di (k + 5 * l.length)) 1 [(0, .row 84 5 l.length (laneMk k))] := by
  refine mut_fn_of lv87 Try.func87 rfl rfl (by kernel_rfl) rfl [] ?_
  refine ⟨{ i : Nat // i ≤ l.length }, fun i => ⟨frL [(0, .row 0), (1, di (k + 5 * (i.1 : Int))), (5, di i.1)], hpL [(0, .row 84 5 l.length fun j => if j < i.1 then laneMk k j else lanesF l j)], 1, 1⟩, fun i => l.length - i.1, ⟨0, by omega⟩,
    le_of [] rfl rfl rfl rfl (tellHp_row rfl rfl rfl (fun i hi => rfl) tellHp_nil) (tellFr_row rfl rfl (tellFr_v rfl (congrArg (Value.int .i64) (?_ : k = k + 5 * ((0 : Nat) : Int))) (tellFr_v rfl rfl trivial))), ?_⟩
  · omega
  rintro ⟨i, hi⟩
  refine bsplit_intro (fun h => ?_) (fun h => ?_)
  · have h : i < l.length := by simp at h; exact h
    have w1 : IntKind.i64.wrap (k + 5 * (i : Int) + 1) = k + 5 * (i : Int) + 1 := (wrap_i64 _ (by omega) (by omega)).trans (by omega)
    have w2 : IntKind.i64.wrap (k + 5 * (i : Int) + 1 + 1) = k + 5 * (i : Int) + 2 := (wrap_i64 _ (by omega) (by omega)).trans (by omega)
    have w3 : IntKind.i64.wrap (k + 5 * (i : Int) + 2 + 1) = k + 5 * (i : Int) + 3 := (wrap_i64 _ (by omega) (by omega)).trans (by omega)
    have w4 : IntKind.i64.wrap (k + 5 * (i : Int) + 3 + 1) = k + 5 * (i : Int) + 4 := (wrap_i64 _ (by omega) (by omega)).trans (by omega)
    refine ask_intro ⟨by omega, by show (i : Int) < (l.length : Int); omega⟩ ?_
    refine ask_intro (by show i < l.length; exact h) ?_
    refine ask_intro ⟨by omega, by show (i : Int) < (l.length : Int); omega⟩ ?_
    refine ask_intro (by show i < l.length; exact h) ?_
    refine ask_intro ⟨by omega, by show (i : Int) < (l.length : Int); omega⟩ ?_
    refine ask_intro (by show i < l.length; exact h) ?_
    refine ask_intro ⟨by omega, by show (i : Int) < (l.length : Int); omega⟩ ?_
    refine ask_intro (by show i < l.length; exact h) ?_
    refine ask_intro ⟨by omega, by show (i : Int) < (l.length : Int); omega⟩ ?_
    refine ask_intro (by show i < l.length; exact h) ?_
    refine ⟨⟨i + 1, by omega⟩, le_of [] rfl rfl rfl rfl (tellHp_row rfl rfl rfl (fun j hj => ?_) tellHp_nil) (tellFr_row rfl rfl (tellFr_v rfl (congrArg (Value.int .i64) (?_ : IntKind.i64.wrap (IntKind.i64.wrap (IntKind.i64.wrap (IntKind.i64.wrap (IntKind.i64.wrap (k + 5 * (i : Int) + 1) + 1) + 1) + 1) + 1) = k + 5 * ((i + 1 : Nat) : Int))) (tellFr_v rfl (congrArg (Value.int .i64) (?_ : IntKind.i64.wrap ((i : Int) + 1) = ((i + 1 : Nat) : Int))) trivial))), by show l.length - (i + 1) < l.length - i; omega⟩
    · show (if j = i then splice (if j = i then splice (if j = i then splice (if j = i then splice (if j = i then splice (if j < i then laneMk k j else lanesF l j) 0 [D.v (.int .i64 (k + 5 * (i : Int)))] else (if j < i then laneMk k j else lanesF l j)) 1 [D.v (.int .i64 (IntKind.i64.wrap (k + 5 * (i : Int) + 1)))] else (if j = i then splice (if j < i then laneMk k j else lanesF l j) 0 [D.v (.int .i64 (k + 5 * (i : Int)))] else (if j < i then laneMk k j else lanesF l j))) 2 [D.v (.int .i64 (IntKind.i64.wrap (IntKind.i64.wrap (k + 5 * (i : Int) + 1) + 1)))] else (if j = i then splice (if j = i then splice (if j < i then laneMk k j else lanesF l j) 0 [D.v (.int .i64 (k + 5 * (i : Int)))] else (if j < i then laneMk k j else lanesF l j)) 1 [D.v (.int .i64 (IntKind.i64.wrap (k + 5 * (i : Int) + 1)))] else (if j = i then splice (if j < i then laneMk k j else lanesF l j) 0 [D.v (.int .i64 (k + 5 * (i : Int)))] else (if j < i then laneMk k j else lanesF l j)))) 3 [D.v (.int .i64 (IntKind.i64.wrap (IntKind.i64.wrap (IntKind.i64.wrap (k + 5 * (i : Int) + 1) + 1) + 1)))] else (if j = i then splice (if j = i then splice (if j = i then splice (if j < i then laneMk k j else lanesF l j) 0 [D.v (.int .i64 (k + 5 * (i : Int)))] else (if j < i then laneMk k j else lanesF l j)) 1 [D.v (.int .i64 (IntKind.i64.wrap (k + 5 * (i : Int) + 1)))] else (if j = i then splice (if j < i then laneMk k j else lanesF l j) 0 [D.v (.int .i64 (k + 5 * (i : Int)))] else (if j < i then laneMk k j else lanesF l j))) 2 [D.v (.int .i64 (IntKind.i64.wrap (IntKind.i64.wrap (k + 5 * (i : Int) + 1) + 1)))] else (if j = i then splice (if j = i then splice (if j < i then laneMk k j else lanesF l j) 0 [D.v (.int .i64 (k + 5 * (i : Int)))] else (if j < i then laneMk k j else lanesF l j)) 1 [D.v (.int .i64 (IntKind.i64.wrap (k + 5 * (i : Int) + 1)))] else (if j = i then splice (if j < i then laneMk k j else lanesF l j) 0 [D.v (.int .i64 (k + 5 * (i : Int)))] else (if j < i then laneMk k j else lanesF l j))))) 4 [D.v (.int .i64 (IntKind.i64.wrap (IntKind.i64.wrap (IntKind.i64.wrap (IntKind.i64.wrap (k + 5 * (i : Int) + 1) + 1) + 1) + 1)))] else (if j = i then splice (if j = i then splice (if j = i then splice (if j = i then splice (if j < i then laneMk k j else lanesF l j) 0 [D.v (.int .i64 (k + 5 * (i : Int)))] else (if j < i then laneMk k j else lanesF l j)) 1 [D.v (.int .i64 (IntKind.i64.wrap (k + 5 * (i : Int) + 1)))] else (if j = i then splice (if j < i then laneMk k j else lanesF l j) 0 [D.v (.int .i64 (k + 5 * (i : Int)))] else (if j < i then laneMk k j else lanesF l j))) 2 [D.v (.int .i64 (IntKind.i64.wrap (IntKind.i64.wrap (k + 5 * (i : Int) + 1) + 1)))] else (if j = i then splice (if j = i then splice (if j < i then laneMk k j else lanesF l j) 0 [D.v (.int .i64 (k + 5 * (i : Int)))] else (if j < i then laneMk k j else lanesF l j)) 1 [D.v (.int .i64 (IntKind.i64.wrap (k + 5 * (i : Int) + 1)))] else (if j = i then splice (if j < i then laneMk k j else lanesF l j) 0 [D.v (.int .i64 (k + 5 * (i : Int)))] else (if j < i then laneMk k j else lanesF l j)))) 3 [D.v (.int .i64 (IntKind.i64.wrap (IntKind.i64.wrap (IntKind.i64.wrap (k + 5 * (i : Int) + 1) + 1) + 1)))] else (if j = i then splice (if j = i then splice (if j = i then splice (if j < i then laneMk k j else lanesF l j) 0 [D.v (.int .i64 (k + 5 * (i : Int)))] else (if j < i then laneMk k j else lanesF l j)) 1 [D.v (.int .i64 (IntKind.i64.wrap (k + 5 * (i : Int) + 1)))] else (if j = i then splice (if j < i then laneMk k j else lanesF l j) 0 [D.v (.int .i64 (k + 5 * (i : Int)))] else (if j < i then laneMk k j else lanesF l j))) 2 [D.v (.int .i64 (IntKind.i64.wrap (IntKind.i64.wrap (k + 5 * (i : Int) + 1) + 1)))] else (if j = i then splice (if j = i then splice (if j < i then laneMk k j else lanesF l j) 0 [D.v (.int .i64 (k + 5 * (i : Int)))] else (if j < i then laneMk k j else lanesF l j)) 1 [D.v (.int .i64 (IntKind.i64.wrap (k + 5 * (i : Int) + 1)))] else (if j = i then splice (if j < i then laneMk k j else lanesF l j) 0 [D.v (.int .i64 (k + 5 * (i : Int)))] else (if j < i then laneMk k j else lanesF l j)))))) = if j < i + 1 then laneMk k j else lanesF l j
      by_cases h1 : j = i
      · subst h1
        rw [if_pos (show j < j + 1 by omega)]
        simp only [eq_self, if_true, Nat.lt_irrefl, if_false, w1, w2, w3, w4]
        rfl
      · simp only [h1, if_false]
        by_cases h2 : j < i
        · rw [if_pos h2, if_pos (by omega)]
        · rw [if_neg h2, if_neg (by omega)]
    · simp only [w1, w2, w3, w4]
      rw [wrap_i64 _ (by omega) (by omega)]; omega
    · exact wrap_i64 (i + 1) (by omega) (by omega)
  · simp at h
    have e : i = l.length := by omega
    subst e
    refine chk_intro (by kernel_rfl) ⟨tellV_v rfl rfl, tellHp_row rfl rfl rfl (fun j hj => ?_) tellHp_nil⟩
    show (if j < l.length then laneMk k j else lanesF l j) = laneMk k j
    rw [if_pos hj]
abbrev rowBell (l : List BellM) : Ent := .row 87 2 l.length (bellsF l)
abbrev bellMk (k : Int) (j : Nat) : List D := [.v (.int .i64 (k + 2 * (j : Int))), .v (.int .i64 (k + 2 * (j : Int) + 1))]
set_option maxHeartbeats 1600000 in
theorem c_laws_markBellS (l : List BellM) (k : Int) (hl : l.length ≤ 109951162777) (hk : 0 ≤ k) (hk2 : k ≤ 1099511627776) :
    MutOK Try.prog 88 [.row 0, di k] 1 [(0, rowBell l)] (di (k + 2 * l.length)) 1 [(0, .row 87 2 l.length (bellMk k))] := by
  refine mut_fn_of lv88 Try.func88 rfl rfl (by kernel_rfl) rfl [] ?_
  refine ⟨{ i : Nat // i ≤ l.length }, fun i => ⟨frL [(0, .row 0), (1, di (k + 2 * (i.1 : Int))), (5, di i.1)], hpL [(0, .row 87 2 l.length fun j => if j < i.1 then bellMk k j else bellsF l j)], 1, 1⟩, fun i => l.length - i.1, ⟨0, by omega⟩,
    le_of [] rfl rfl rfl rfl (tellHp_row rfl rfl rfl (fun i hi => rfl) tellHp_nil) (tellFr_row rfl rfl (tellFr_v rfl (congrArg (Value.int .i64) (?_ : k = k + 2 * ((0 : Nat) : Int))) (tellFr_v rfl rfl trivial))), ?_⟩
  · omega
  rintro ⟨i, hi⟩
  refine bsplit_intro (fun h => ?_) (fun h => ?_)
  · have h : i < l.length := by simp at h; exact h
    have w1 : IntKind.i64.wrap (k + 2 * (i : Int) + 1) = k + 2 * (i : Int) + 1 := (wrap_i64 _ (by omega) (by omega)).trans (by omega)
    refine ask_intro ⟨by omega, by show (i : Int) < (l.length : Int); omega⟩ ?_
    refine ask_intro (by show i < l.length; exact h) ?_
    refine ask_intro ⟨by omega, by show (i : Int) < (l.length : Int); omega⟩ ?_
    refine ask_intro (by show i < l.length; exact h) ?_
    refine ⟨⟨i + 1, by omega⟩, le_of [] rfl rfl rfl rfl (tellHp_row rfl rfl rfl (fun j hj => ?_) tellHp_nil) (tellFr_row rfl rfl (tellFr_v rfl (congrArg (Value.int .i64) (?_ : IntKind.i64.wrap (IntKind.i64.wrap (k + 2 * (i : Int) + 1) + 1) = k + 2 * ((i + 1 : Nat) : Int))) (tellFr_v rfl (congrArg (Value.int .i64) (?_ : IntKind.i64.wrap ((i : Int) + 1) = ((i + 1 : Nat) : Int))) trivial))), by show l.length - (i + 1) < l.length - i; omega⟩
    · show (if j = i then splice (if j = i then splice (if j < i then bellMk k j else bellsF l j) 0 [D.v (.int .i64 (k + 2 * (i : Int)))] else (if j < i then bellMk k j else bellsF l j)) 1 [D.v (.int .i64 (IntKind.i64.wrap (k + 2 * (i : Int) + 1)))] else (if j = i then splice (if j < i then bellMk k j else bellsF l j) 0 [D.v (.int .i64 (k + 2 * (i : Int)))] else (if j < i then bellMk k j else bellsF l j))) = if j < i + 1 then bellMk k j else bellsF l j
      by_cases h1 : j = i
      · subst h1
        rw [if_pos (show j < j + 1 by omega)]
        simp only [eq_self, if_true, Nat.lt_irrefl, if_false, w1]
        rfl
      · simp only [h1, if_false]
        by_cases h2 : j < i
        · rw [if_pos h2, if_pos (by omega)]
        · rw [if_neg h2, if_neg (by omega)]
    · simp only [w1]
      rw [wrap_i64 _ (by omega) (by omega)]; omega
    · exact wrap_i64 (i + 1) (by omega) (by omega)
  · simp at h
    have e : i = l.length := by omega
    subst e
    refine chk_intro (by kernel_rfl) ⟨tellV_v rfl rfl, tellHp_row rfl rfl rfl (fun j hj => ?_) tellHp_nil⟩
    show (if j < l.length then bellMk k j else bellsF l j) = bellMk k j
    rw [if_pos hj]
abbrev rowSlot (l : List SlotM) : Ent := .row 45 2 l.length (slotsF l)
abbrev slotMk (k : Int) (j : Nat) : List D := [.v (.int .i64 (k + 2 * (j : Int))), .v (.int .i64 (k + 2 * (j : Int) + 1))]
set_option maxHeartbeats 1600000 in
theorem c_laws_markSlotS (l : List SlotM) (k : Int) (hl : l.length ≤ 109951162777) (hk : 0 ≤ k) (hk2 : k ≤ 1099511627776) :
    MutOK Try.prog 89 [.row 0, di k] 1 [(0, rowSlot l)] (di (k + 2 * l.length)) 1 [(0, .row 45 2 l.length (slotMk k))] := by
  refine mut_fn_of lv89 Try.func89 rfl rfl (by kernel_rfl) rfl [] ?_
  refine ⟨{ i : Nat // i ≤ l.length }, fun i => ⟨frL [(0, .row 0), (1, di (k + 2 * (i.1 : Int))), (5, di i.1)], hpL [(0, .row 45 2 l.length fun j => if j < i.1 then slotMk k j else slotsF l j)], 1, 1⟩, fun i => l.length - i.1, ⟨0, by omega⟩,
    le_of [] rfl rfl rfl rfl (tellHp_row rfl rfl rfl (fun i hi => rfl) tellHp_nil) (tellFr_row rfl rfl (tellFr_v rfl (congrArg (Value.int .i64) (?_ : k = k + 2 * ((0 : Nat) : Int))) (tellFr_v rfl rfl trivial))), ?_⟩
  · omega
  rintro ⟨i, hi⟩
  refine bsplit_intro (fun h => ?_) (fun h => ?_)
  · have h : i < l.length := by simp at h; exact h
    have w1 : IntKind.i64.wrap (k + 2 * (i : Int) + 1) = k + 2 * (i : Int) + 1 := (wrap_i64 _ (by omega) (by omega)).trans (by omega)
    refine ask_intro ⟨by omega, by show (i : Int) < (l.length : Int); omega⟩ ?_
    refine ask_intro (by show i < l.length; exact h) ?_
    refine ask_intro ⟨by omega, by show (i : Int) < (l.length : Int); omega⟩ ?_
    refine ask_intro (by show i < l.length; exact h) ?_
    refine ⟨⟨i + 1, by omega⟩, le_of [] rfl rfl rfl rfl (tellHp_row rfl rfl rfl (fun j hj => ?_) tellHp_nil) (tellFr_row rfl rfl (tellFr_v rfl (congrArg (Value.int .i64) (?_ : IntKind.i64.wrap (IntKind.i64.wrap (k + 2 * (i : Int) + 1) + 1) = k + 2 * ((i + 1 : Nat) : Int))) (tellFr_v rfl (congrArg (Value.int .i64) (?_ : IntKind.i64.wrap ((i : Int) + 1) = ((i + 1 : Nat) : Int))) trivial))), by show l.length - (i + 1) < l.length - i; omega⟩
    · show (if j = i then splice (if j = i then splice (if j < i then slotMk k j else slotsF l j) 0 [D.v (.int .i64 (k + 2 * (i : Int)))] else (if j < i then slotMk k j else slotsF l j)) 1 [D.v (.int .i64 (IntKind.i64.wrap (k + 2 * (i : Int) + 1)))] else (if j = i then splice (if j < i then slotMk k j else slotsF l j) 0 [D.v (.int .i64 (k + 2 * (i : Int)))] else (if j < i then slotMk k j else slotsF l j))) = if j < i + 1 then slotMk k j else slotsF l j
      by_cases h1 : j = i
      · subst h1
        rw [if_pos (show j < j + 1 by omega)]
        simp only [eq_self, if_true, Nat.lt_irrefl, if_false, w1]
        rfl
      · simp only [h1, if_false]
        by_cases h2 : j < i
        · rw [if_pos h2, if_pos (by omega)]
        · rw [if_neg h2, if_neg (by omega)]
    · simp only [w1]
      rw [wrap_i64 _ (by omega) (by omega)]; omega
    · exact wrap_i64 (i + 1) (by omega) (by omega)
  · simp at h
    have e : i = l.length := by omega
    subst e
    refine chk_intro (by kernel_rfl) ⟨tellV_v rfl rfl, tellHp_row rfl rfl rfl (fun j hj => ?_) tellHp_nil⟩
    show (if j < l.length then slotMk k j else slotsF l j) = slotMk k j
    rw [if_pos hj]
/-! ## rows of rows -/
abbrev nestE (l : List (List Int)) : Ent := .nest 56 2 1 l.length (lenF l) (inF l) []
abbrev offK (l : List (List Int)) (k : Int) (i : Nat) : Int := k + (sumN (l.take i) : Nat)
abbrev nestMk (l : List (List Int)) (k : Int) (i j : Nat) : List D := intsF (markL (offK l k i) (l.getD i []).length) j
theorem c_laws_markInt64SS (l : List (List Int)) (k : Int) (hl : l.length ≤ 1048576) (hs : sumN l ≤ 1048576) (hk : 0 ≤ k) (hk2 : k ≤ 1073741824) :
    MutOK Try.prog 86 [.row 0, di k] 1 [(0, nestE l)] (di (k + (sumN l : Nat))) 1 [(0, .nest 56 2 1 l.length (lenF l) (nestMk l k) [])] := by
  refine mut_fn_of lv86 Try.func86 rfl rfl (by kernel_rfl) rfl [] ?_
  refine ⟨{ i : Nat // i ≤ l.length }, fun i => ⟨frL [(0, .row 0), (1, di (offK l k i.1)), (5, di i.1)], hpL [(0, .nest 56 2 1 l.length (lenF l) (fun j => if j < i.1 then nestMk l k j else inF l j) [])], 1, 1⟩, fun i => l.length - i.1, ⟨0, by omega⟩,
    le_of [] rfl rfl rfl rfl (tellHp_nest rfl rfl rfl (fun i hi => ⟨rfl, fun j hj => rfl⟩) tellHp_nil) (tellFr_row rfl rfl (tellFr_v rfl (congrArg (Value.int .i64) (?_ : k = offK l k 0)) (tellFr_v rfl rfl trivial))), ?_⟩
  · simp [offK, sumN]
  rintro ⟨i, hi⟩
  refine ask_intro trivial ?_
  refine bsplit_intro (fun h => ?_) (fun h => ?_)
  · have h : i < l.length := by simp at h; exact h
    have e1 := sumN_take l i h
    have e2 := sumN_le l i
    have e3 := sumN_get l i h
    refine ask_intro ⟨by omega, by show (i : Int) < (l.length : Int); omega⟩ ?_
    refine ask_intro (by show i < l.length; exact h) ?_
    have cm := (c_laws_markInt64S (l.getD i []) (offK l k i) (by omega) (by show 0 ≤ k + (sumN (l.take i) : Nat); omega) (by show k + (sumN (l.take i) : Nat) ≤ _; omega)).rows (hp0' := [(0, .row 2 1 (lenF l i) (if i < i then nestMk l k i else inF l i))]) ⟨rfl, ⟨rfl, rfl, rfl, fun j hj => by rw [if_neg (Nat.lt_irrefl i)]⟩, trivial⟩
    refine .inr ⟨rfl, use_mut ⟨_, _, _, _, _, _, rfl, rfl, cm, rfl, ?_⟩⟩
    refine ⟨⟨i + 1, by omega⟩, le_of [] rfl rfl rfl rfl (tellHp_hole rfl rfl rfl rfl rfl rfl ⟨rfl, fun j hj => ?_⟩ (fun j hj hne => ⟨rfl, fun q hq => ?_⟩) tellHp_nil) (tellFr_row rfl rfl (tellFr_v rfl (congrArg (Value.int .i64) (?_ : offK l k i + ((l.getD i []).length : Int) = offK l k (i + 1))) (tellFr_v rfl (congrArg (Value.int .i64) (?_ : IntKind.i64.wrap ((i : Int) + 1) = ((i + 1 : Nat) : Int))) trivial))), by show l.length - (i + 1) < l.length - i; omega⟩
    · show _ = (if i < i + 1 then nestMk l k i else inF l i) j
      rw [if_pos (by omega)]
    · show (if j < i then nestMk l k j else inF l j) q = (if j < i + 1 then nestMk l k j else inF l j) q
      have hne : j ≠ i := hne
      by_cases h2 : j < i
      · rw [if_pos h2, if_pos (by omega)]
      · rw [if_neg h2, if_neg (by omega)]
    · show k + (sumN (l.take i) : Nat) + ((l.getD i []).length : Int) = k + (sumN (l.take (i + 1)) : Nat)
      omega
    · exact wrap_i64 (i + 1) (by omega) (by omega)
  · simp at h
    have e : i = l.length := by omega
    subst e
    refine chk_intro (by kernel_rfl) ⟨tellV_v rfl ?_, tellHp_nest rfl rfl rfl (fun j hj => ⟨rfl, fun q hq => ?_⟩) tellHp_nil⟩
    · show Value.int .i64 (k + (sumN (l.take l.length) : Nat)) = _
      rw [List.take_length]
    · show (if j < l.length then nestMk l k j else inF l j) q = nestMk l k j q
      rw [if_pos hj]
end Go.Proofs.Ytdpahckfibnagaa.L

/- What the law functions compute that mark a policy: contracts. -/
set_option linter.unusedVariables false
set_option linter.unusedSimpArgs false
set_option maxRecDepth 100000
namespace Go.Proofs.Ytdpahckfibnagaa.L
open Go.RowKit
abbrev polRows (x : PolM) : List (Nat × Ent) := [(0, nestE x.own), (1, rowLane x.lns), (2, rowBell x.bls), (3, rowSlot x.pln)]
abbrev polK1 (x : PolM) (k : Int) : Int := k + (sumN x.own : Nat)
abbrev polK2 (x : PolM) (k : Int) : Int := polK1 x k + 5 * (x.lns.length : Int)
abbrev polK3 (x : PolM) (k : Int) : Int := polK2 x k + 2 * (x.bls.length : Int)
abbrev polK (x : PolM) (k : Int) : Int := polK3 x k + 2 * (x.pln.length : Int)
abbrev polMarks (x : PolM) (k : Int) : List (Nat × Ent) := [(0, .nest 56 2 1 x.own.length (lenF x.own) (nestMk x.own k) []), (1, .row 84 5 x.lns.length (laneMk (polK1 x k))), (2, .row 87 2 x.bls.length (bellMk (polK2 x k))), (3, .row 45 2 x.pln.length (slotMk (polK3 x k)))]
theorem polK_b (x : PolM) (k : Int) (hf : (x.size : Int) ≤ 1048576) (h1 : 0 ≤ k) (h2 : k ≤ 1073741824) : 0 ≤ polK x k ∧ polK x k ≤ k + 5242880 := by
  have e : x.size = x.own.length + sumN x.own + x.lns.length + x.bls.length + x.pln.length := rfl
  show 0 ≤ k + (sumN x.own : Nat) + 5 * (x.lns.length : Int) + 2 * (x.bls.length : Int) + 2 * (x.pln.length : Int) ∧ k + (sumN x.own : Nat) + 5 * (x.lns.length : Int) + 2 * (x.bls.length : Int) + 2 * (x.pln.length : Int) ≤ _
  omega
theorem c_laws_markPolicy (x : PolM) (k : Int) (hf : (x.size : Int) ≤ 1048576) (hk : 0 ≤ k) (hk2 : k ≤ 1073741824) :
    MutOK Try.prog 37 [.agg [.row 0, .row 1, .row 2, .row 3], di k] 4 (polRows x) (di (polK x k)) 4 (polMarks x k) := by
  have e : x.size = x.own.length + sumN x.own + x.lns.length + x.bls.length + x.pln.length := rfl
  have c1 := c_laws_markInt64SS x.own k (by omega) (by omega) hk hk2
  have c2 := c_laws_markLaneS x.lns (polK1 x k) (by omega) (by show 0 ≤ k + (sumN x.own : Nat); omega) (by show k + (sumN x.own : Nat) ≤ _; omega)
  have c3 := c_laws_markBellS x.bls (polK2 x k) (by omega) (by show 0 ≤ k + (sumN x.own : Nat) + 5 * (x.lns.length : Int); omega) (by show k + (sumN x.own : Nat) + 5 * (x.lns.length : Int) ≤ _; omega)
  have c4 := c_laws_markSlotS x.pln (polK3 x k) (by omega) (by show 0 ≤ k + (sumN x.own : Nat) + 5 * (x.lns.length : Int) + 2 * (x.bls.length : Int); omega) (by show k + (sumN x.own : Nat) + 5 * (x.lns.length : Int) + 2 * (x.bls.length : Int) ≤ _; omega)
  refine mut_fn_of lv37 Try.func37 rfl rfl (by kernel_rfl) rfl [] ?_
  refine .inr ⟨rfl, use_mut ⟨_, _, _, _, _, _, rfl, rfl, c1, rfl, ?_⟩⟩
  refine .inr ⟨rfl, use_mut ⟨_, _, _, _, _, _, rfl, rfl, c2, rfl, ?_⟩⟩
  refine .inr ⟨rfl, use_mut ⟨_, _, _, _, _, _, rfl, rfl, c3, rfl, ?_⟩⟩
  refine .inr ⟨rfl, use_mut ⟨_, _, _, _, _, _, rfl, rfl, c4, rfl, ?_⟩⟩
  exact chk_intro (by kernel_rfl) ⟨tellV_v rfl rfl, tellHp_nest rfl rfl rfl (fun j hj => ⟨rfl, fun q hq => rfl⟩) (tellHp_row rfl rfl rfl (fun j hj => rfl) (tellHp_row rfl rfl rfl (fun j hj => rfl) (tellHp_row rfl rfl rfl (fun j hj => rfl) tellHp_nil)))⟩
end Go.Proofs.Ytdpahckfibnagaa.L

/- The words of a lane's page: contracts. -/
set_option linter.unusedVariables false
set_option linter.unusedSimpArgs false
set_option maxRecDepth 100000
namespace Go.Proofs.Ytdpahckfibnagaa.L
open Go.RowKit
def wholeB (m : List Int) : Bool := (memFault m == 0) && ((m.length : Int) == 192)
theorem c_spec_l7Whole (m : List Int) (hm : m.length ≤ 1048576) : FnOK Try.prog 97 [.d (ints m)] (rb (wholeB m)) := by
  have c1 := c_spec_MemoryFault m hm
  generalize hv : wholeB m = v
  unfold wholeB at hv
  generalize memFault m = e at *
  refine fn_of lv97 Try.func97 rfl rfl (by kernel_rfl) rfl ?_
  refine .inl ⟨_, _, rfl, c1, rfl, ?_⟩
  repeat' (first | refine bsplit_true ?_ | refine bsplit_false ?_ | refine bsplit_intro (fun h => ?_) (fun h => ?_))
  all_goals refine ⟨⟨congrArg Value.bool ?_, trivial⟩, rfl⟩
  all_goals simp_all
theorem c_impl_isWhole (m : List Int) (hm : m.length ≤ 1048576) : FnOK Try.prog 100 [.d (ints m)] (rb (wholeB m)) := by
  have c1 := c_impl_MemoryFault m hm
  generalize hv : wholeB m = v
  unfold wholeB at hv
  generalize memFault m = e at *
  refine fn_of lv100 Try.func100 rfl rfl (by kernel_rfl) rfl ?_
  refine .inl ⟨_, _, rfl, c1, rfl, ?_⟩
  repeat' (first | refine bsplit_true ?_ | refine bsplit_false ?_ | refine bsplit_intro (fun h => ?_) (fun h => ?_))
  all_goals refine ⟨⟨congrArg Value.bool ?_, trivial⟩, rfl⟩
  all_goals simp_all
def laneWords (x : PolM) (m : List Int) (i : Int) : Int × List Int := if polFault x = 0 then (bif !inR i 0 ((x.lns.length : Int) - 1) then (4, []) else bif !wholeB m then (1, []) else (0, pageW m (x.lns.getD i.toNat ⟨0, 0, 0, 0, 0⟩).page)) else (polFault x, [])
theorem laneWords_few (x : PolM) (m : List Int) (i : Int) : (laneWords x m i).2.length ≤ 1048576 := by
  have h8 : ∀ p, (pageW m p).length ≤ 8 := fun p => by unfold pageW; rw [List.length_take]; omega
  unfold laneWords
  split
  · cases inR i 0 ((x.lns.length : Int) - 1) with
    | false => simp
    | true =>
      cases wholeB m with
      | false => simp
      | true => show (pageW m _).length ≤ _; have := h8 (x.lns.getD i.toNat ⟨0, 0, 0, 0, 0⟩).page; omega
  · simp
theorem lanesBad_page {own : List (List Int)} : ∀ {l ahead : List LaneM}, lanesBad own ahead l = 0 → ∀ m ∈ l, inR m.page 0 23 = true
  | [], _, _, m, hm => by simp at hm
  | a :: l, ahead, h, m, hm => by
    simp only [lanesBad] at h
    split at h
    · rename_i hb
      rcases List.mem_cons.1 hm with rfl | hm
      · unfold laneBad at hb
        split at hb
        · cases hp : inR m.page 0 23 with
          | true => rfl
          | false => rw [hp] at hb; simp at hb
        · rename_i e; exact absurd hb e
      · exact lanesBad_page h m hm
    · rename_i e; exact absurd h e
theorem pol_lanes {x : PolM} (h : polFault x = 0) : lanesBad x.own [] x.lns = 0 := by
  unfold polFault at h
  split at h
  · cases hq : (decide (x.lns.length > 4) || decide (x.bls.length > 4)) with
    | true => rw [hq] at h; simp at h
    | false =>
      rw [hq, cond_false] at h
      split at h
      · assumption
      · rename_i e; exact absurd h e
  · rename_i e; exact absurd h e
theorem lane_page {x : PolM} (h : polFault x = 0) {i : Int} (hi : inR i 0 ((x.lns.length : Int) - 1) = true) {m : List Int} (hm : wholeB m = true) : 0 ≤ i ∧ i < x.lns.length ∧ 0 ≤ (x.lns.getD i.toNat ⟨0, 0, 0, 0, 0⟩).page ∧ (x.lns.getD i.toNat ⟨0, 0, 0, 0, 0⟩).page ≤ 23 ∧ ((x.lns.getD i.toNat ⟨0, 0, 0, 0, 0⟩).page + 1) * 8 ≤ (m.length : Int) := by
  have h1 := inR_iff.1 hi
  have h2 : i.toNat < x.lns.length := by omega
  have h3 := inR_iff.1 (lanesBad_page (pol_lanes h) (x.lns.getD i.toNat ⟨0, 0, 0, 0, 0⟩) (by rw [getD_at _ h2]; exact List.getElem_mem h2))
  have h4 : (m.length : Int) = 192 := by
    unfold wholeB at hm
    rw [Bool.and_eq_true] at hm
    simpa using hm.2
  omega
theorem c_impl_LaneWords (x : PolM) (hs : x.small) (m : List Int) (hm : m.length ≤ 1048576) (i : Int) : FnOK Try.prog 48 [polLV x, .d (ints m), di i] (.r (irsR (laneWords x m i))) := by
  have hl := hs.lns
  have c1 := c_impl_PolicyFault x hs
  have c2 := c_impl_within i 0 ((x.lns.length : Int) - 1)
  have c3 := c_impl_isWhole m hm
  have hw : IntKind.i64.wrap ((x.lns.length : Int) - 1) = (x.lns.length : Int) - 1 := wrapm (by omega)
  rw [← hw] at c2
  obtain ⟨r, hr⟩ : ∃ r, r = laneWords x m i := ⟨_, rfl⟩
  rw [← hr]
  unfold laneWords at hr
  rw [← hw] at hr
  have lp := @lane_page x
  by_cases he : polFault x = 0
  rotate_left
  · rw [if_neg he] at hr
    subst hr
    refine fn_of lv48 Try.func48 rfl rfl (by kernel_rfl) rfl ?_
    refine .inl ⟨_, _, rfl, c1, rfl, ?_⟩
    refine bsplit_of_true (by simpa using he) ?_
    exact ⟨⟨rfl, ⟨rfl, rfl⟩, trivial⟩, rfl⟩
  rw [if_pos he] at hr
  rw [he] at c1
  have lp := fun i' h' => @lp he i' h' m
  rw [← hw] at lp
  cases hi : inR i 0 (IntKind.i64.wrap ((x.lns.length : Int) - 1)) with
  | false =>
    rw [hi] at hr c2
    have hr : r = (4, []) := hr
    subst hr
    refine fn_of lv48 Try.func48 rfl rfl (by kernel_rfl) rfl ?_
    refine .inl ⟨_, _, rfl, c1, rfl, ?_⟩
    repeat' (first | refine bsplit_true ?_ | refine bsplit_false ?_)
    refine .inl ⟨_, _, rfl, c2, rfl, ?_⟩
    repeat' (first | refine bsplit_true ?_ | refine bsplit_false ?_)
    exact ⟨⟨rfl, ⟨rfl, rfl⟩, trivial⟩, rfl⟩
  | true =>
    rw [hi] at hr c2
    cases hwb : wholeB m with
    | false =>
      rw [hwb] at hr c3
      have hr : r = (1, []) := hr
      subst hr
      refine fn_of lv48 Try.func48 rfl rfl (by kernel_rfl) rfl ?_
      refine .inl ⟨_, _, rfl, c1, rfl, ?_⟩
      repeat' (first | refine bsplit_true ?_ | refine bsplit_false ?_)
      refine .inl ⟨_, _, rfl, c2, rfl, ?_⟩
      repeat' (first | refine bsplit_true ?_ | refine bsplit_false ?_)
      refine .inl ⟨_, _, rfl, c3, rfl, ?_⟩
      repeat' (first | refine bsplit_true ?_ | refine bsplit_false ?_)
      exact ⟨⟨rfl, ⟨rfl, rfl⟩, trivial⟩, rfl⟩
    | true =>
      rw [hwb] at hr c3
      obtain ⟨q1, q2, q3, q4, q5⟩ := lp i hi hwb
      have hr : r = (0, pageW m (x.lns.getD i.toNat ⟨0, 0, 0, 0, 0⟩).page) := hr
      subst hr
      refine fn_of lv48 Try.func48 rfl rfl (by kernel_rfl) rfl ?_
      refine .inl ⟨_, _, rfl, c1, rfl, ?_⟩
      repeat' (first | refine bsplit_true ?_ | refine bsplit_false ?_)
      refine .inl ⟨_, _, rfl, c2, rfl, ?_⟩
      repeat' (first | refine bsplit_true ?_ | refine bsplit_false ?_)
      refine .inl ⟨_, _, rfl, c3, rfl, ?_⟩
      repeat' (first | refine bsplit_true ?_ | refine bsplit_false ?_)
      refine ask_intro ⟨q1, q2, rfl⟩ ?_
      refine .inl ⟨_, _, rfl, c_impl_pageOf m (x.lns.getD i.toNat ⟨0, 0, 0, 0, 0⟩).page q3 (by omega) q5, rfl, ?_⟩
      exact ⟨⟨rfl, ⟨rfl, rfl, rfl, fun j hj => ⟨rfl, rfl⟩⟩, trivial⟩, rfl⟩
theorem c_spec_LaneWords (x : PolM) (hs : x.small) (m : List Int) (hm : m.length ≤ 1048576) (i : Int) : FnOK Try.prog 46 [polLV x, .d (ints m), di i] (.r (irsR (laneWords x m i))) := by
  have hl := hs.lns
  have c1 := c_spec_l6Fault x hs
  have c2 := c_spec_l1In i 0 ((x.lns.length : Int) - 1)
  have c3 := c_spec_l7Whole m hm
  have hw : IntKind.i64.wrap ((x.lns.length : Int) - 1) = (x.lns.length : Int) - 1 := wrapm (by omega)
  rw [← hw] at c2
  obtain ⟨r, hr⟩ : ∃ r, r = laneWords x m i := ⟨_, rfl⟩
  rw [← hr]
  unfold laneWords at hr
  rw [← hw] at hr
  have lp := @lane_page x
  by_cases he : polFault x = 0
  rotate_left
  · rw [if_neg he] at hr
    subst hr
    refine fn_of lv46 Try.func46 rfl rfl (by kernel_rfl) rfl ?_
    refine .inl ⟨_, _, rfl, c1, rfl, ?_⟩
    refine bsplit_of_true (by simpa using he) ?_
    exact ⟨⟨rfl, ⟨rfl, rfl⟩, trivial⟩, rfl⟩
  rw [if_pos he] at hr
  rw [he] at c1
  have lp := fun i' h' => @lp he i' h' m
  rw [← hw] at lp
  cases hi : inR i 0 (IntKind.i64.wrap ((x.lns.length : Int) - 1)) with
  | false =>
    rw [hi] at hr c2
    have hr : r = (4, []) := hr
    subst hr
    refine fn_of lv46 Try.func46 rfl rfl (by kernel_rfl) rfl ?_
    refine .inl ⟨_, _, rfl, c1, rfl, ?_⟩
    repeat' (first | refine bsplit_true ?_ | refine bsplit_false ?_)
    refine .inl ⟨_, _, rfl, c2, rfl, ?_⟩
    repeat' (first | refine bsplit_true ?_ | refine bsplit_false ?_)
    exact ⟨⟨rfl, ⟨rfl, rfl⟩, trivial⟩, rfl⟩
  | true =>
    rw [hi] at hr c2
    cases hwb : wholeB m with
    | false =>
      rw [hwb] at hr c3
      have hr : r = (1, []) := hr
      subst hr
      refine fn_of lv46 Try.func46 rfl rfl (by kernel_rfl) rfl ?_
      refine .inl ⟨_, _, rfl, c1, rfl, ?_⟩
      repeat' (first | refine bsplit_true ?_ | refine bsplit_false ?_)
      refine .inl ⟨_, _, rfl, c2, rfl, ?_⟩
      repeat' (first | refine bsplit_true ?_ | refine bsplit_false ?_)
      refine .inl ⟨_, _, rfl, c3, rfl, ?_⟩
      repeat' (first | refine bsplit_true ?_ | refine bsplit_false ?_)
      exact ⟨⟨rfl, ⟨rfl, rfl⟩, trivial⟩, rfl⟩
    | true =>
      rw [hwb] at hr c3
      obtain ⟨q1, q2, q3, q4, q5⟩ := lp i hi hwb
      have hr : r = (0, pageW m (x.lns.getD i.toNat ⟨0, 0, 0, 0, 0⟩).page) := hr
      subst hr
      have cw := (c_spec_l7Words m [(x.lns.getD i.toNat ⟨0, 0, 0, 0, 0⟩).page] hm (by simp) (fun p hp => by rw [List.mem_singleton.1 hp]; exact ⟨q3, q5⟩)).weak (xs := [.d (ints m), .d (.l 1 fun j => [[dI (x.lns.getD i.toNat ⟨0, 0, 0, 0, 0⟩).page]].getD j [])]) ⟨LVLe.refl _, LVLe.d (DLe.l rfl (fun j hj => litD_eq [(x.lns.getD i.toNat ⟨0, 0, 0, 0, 0⟩).page] j hj)), trivial⟩
      rw [show wordsL m [(x.lns.getD i.toNat ⟨0, 0, 0, 0, 0⟩).page] = pageW m (x.lns.getD i.toNat ⟨0, 0, 0, 0, 0⟩).page from by unfold wordsL; simp] at cw
      refine fn_of lv46 Try.func46 rfl rfl (by kernel_rfl) rfl ?_
      refine .inl ⟨_, _, rfl, c1, rfl, ?_⟩
      repeat' (first | refine bsplit_true ?_ | refine bsplit_false ?_)
      refine .inl ⟨_, _, rfl, c2, rfl, ?_⟩
      repeat' (first | refine bsplit_true ?_ | refine bsplit_false ?_)
      refine .inl ⟨_, _, rfl, c3, rfl, ?_⟩
      repeat' (first | refine bsplit_true ?_ | refine bsplit_false ?_)
      refine ask_intro ⟨q1, q2, rfl⟩ ?_
      refine .inl ⟨_, _, rfl, cw, rfl, ?_⟩
      exact ⟨⟨rfl, ⟨rfl, rfl, rfl, fun j hj => ⟨rfl, rfl⟩⟩, trivial⟩, rfl⟩
end Go.Proofs.Ytdpahckfibnagaa.L

/- The law functions over policies answer true. -/
set_option linter.unusedVariables false
set_option linter.unusedSimpArgs false
set_option maxRecDepth 100000
namespace Go.Proofs.Ytdpahckfibnagaa.L
open Go.RowKit Go.ChangeShapes Go.WideShapes Go.ChangeAt
theorem reads_owns : ReadsT Try.prog 22 1 (List (List Int)) (fun l => [owns l]) (fun l => l.length * 24 ≤ reachBytes ∧ ∀ x ∈ l, okInts x) := ReadsT.slice reads_ints Try.underlying22 (by kernel_rfl) (by decide) [] (by kernel_rfl)
theorem reads_Lane : ReadsT Try.prog 118 5 LaneM laneD (fun p => ok64 p.frm ∧ ok64 p.to ∧ ok64 p.page ∧ ok64 p.af ∧ ok64 p.at_) :=
  (ReadsT.struct (ok := _) Try.underlying118 (by kernel_rfl) (ReadsL.cons reads_int64 (.cons reads_int64 (.cons reads_int64 (.cons reads_int64 (.cons reads_int64 (.nil 5))))))).map (fun m => ⟨m.1, m.2.1, m.2.2.1, m.2.2.2.1, m.2.2.2.2.1⟩) (fun m h => ⟨⟨h.1, h.2.1, h.2.2.1, h.2.2.2.1, h.2.2.2.2.1⟩, rfl⟩)
theorem reads_lanes : ReadsT Try.prog 23 1 (List LaneM) (fun l => [lanes l]) (fun l => l.length * 40 ≤ reachBytes ∧ ∀ p ∈ l, ok64 p.frm ∧ ok64 p.to ∧ ok64 p.page ∧ ok64 p.af ∧ ok64 p.at_) := ReadsT.slice reads_Lane Try.underlying23 (by kernel_rfl) (by decide) ⟨0, 0, 0, 0, 0⟩ (by kernel_rfl)
theorem reads_Bell : ReadsT Try.prog 120 2 BellM bellD (fun p => ok64 p.frm ∧ ok64 p.to) :=
  (ReadsT.struct (ok := _) Try.underlying120 (by kernel_rfl) (ReadsL.cons reads_int64 (.cons reads_int64 (.nil 2)))).map (fun m => ⟨m.1, m.2.1⟩) (fun m h => ⟨⟨h.1, h.2.1⟩, rfl⟩)
theorem reads_bells : ReadsT Try.prog 24 1 (List BellM) (fun l => [bells l]) (fun l => l.length * 16 ≤ reachBytes ∧ ∀ p ∈ l, ok64 p.frm ∧ ok64 p.to) := ReadsT.slice reads_Bell Try.underlying24 (by kernel_rfl) (by decide) ⟨0, 0⟩ (by kernel_rfl)
theorem reads_Slot : ReadsT Try.prog 122 2 SlotM slotD (fun p => ok64 p.guest ∧ ok64 p.steps) :=
  (ReadsT.struct (ok := _) Try.underlying122 (by kernel_rfl) (ReadsL.cons reads_int64 (.cons reads_int64 (.nil 2)))).map (fun m => ⟨m.1, m.2.1⟩) (fun m h => ⟨⟨h.1, h.2.1⟩, rfl⟩)
theorem reads_slots : ReadsT Try.prog 25 1 (List SlotM) (fun l => [slots l]) (fun l => l.length * 16 ≤ reachBytes ∧ ∀ p ∈ l, ok64 p.guest ∧ ok64 p.steps) := ReadsT.slice reads_Slot Try.underlying25 (by kernel_rfl) (by decide) ⟨0, 0⟩ (by kernel_rfl)
structure PolM.ok (x : PolM) : Prop where
  own : x.own.length * 24 ≤ reachBytes ∧ ∀ r ∈ x.own, okInts r
  lns : x.lns.length * 40 ≤ reachBytes ∧ ∀ p ∈ x.lns, ok64 p.frm ∧ ok64 p.to ∧ ok64 p.page ∧ ok64 p.af ∧ ok64 p.at_
  bls : x.bls.length * 16 ≤ reachBytes ∧ ∀ p ∈ x.bls, ok64 p.frm ∧ ok64 p.to
  pln : x.pln.length * 16 ≤ reachBytes ∧ ∀ p ∈ x.pln, ok64 p.guest ∧ ok64 p.steps
theorem PolM.ok.small {x : PolM} (h : x.ok) : x.small := by
  have e := reach_eq
  have a := h.own.1
  have b := h.lns.1
  have c := h.bls.1
  have d := h.pln.1
  refine ⟨by omega, fun i hi => ?_, by omega, by omega, by omega⟩
  have := (h.own.2 (x.own.getD i []) (by rw [getD_at _ hi]; exact List.getElem_mem hi)).1
  omega
theorem reads_Policy : ReadsT Try.prog 27 4 PolM polD PolM.ok :=
  (ReadsT.struct (ok := _) Try.underlying27 (by kernel_rfl) (ReadsL.cons reads_owns (.cons reads_lanes (.cons reads_bells (.cons reads_slots (.nil 4)))))).map (fun m => ⟨m.1, m.2.1, m.2.2.1, m.2.2.2.1⟩) (fun m h => ⟨⟨h.1, h.2.1, h.2.2.1, h.2.2.2.1⟩, rfl⟩)
theorem szP_of {x : PolM} {q : Int} (h : decide (szP x q < 0) = false) : (x.size : Int) ≤ q := by
  have h := of_decide_eq_false h
  unfold szP at h
  split at h <;> omega
set_option maxHeartbeats 1600000 in
theorem c_laws_FnExactPolicyFault (x0 : PolM) (ho_x0 : x0.ok) : FnOK Try.prog 3 [polLV x0] (rb true) := by
  have hs_x0 := ho_x0.small
  refine fn_of lv3 Try.func3 rfl rfl (by kernel_rfl) rfl ?_
  refine .inl ⟨_, _, rfl, c_laws_szPolicy x0 hs_x0 (1048576) (by omega) (by omega), rfl, ?_⟩
  refine bsplit_intro (fun h => ?_) (fun h => ?_)
  · exact ⟨⟨rfl, trivial⟩, rfl⟩
  have hf_x0 : (x0.size : Int) ≤ 1048576 := szP_of h
  have cs := c_spec_PolicyFault x0 hs_x0
  have ci := c_impl_PolicyFault x0 hs_x0
  have hf := trivial 
  obtain ⟨p, hp⟩ : ∃ p, p = polFault x0 := ⟨_, rfl⟩
  rw [← hp] at cs ci
  refine .inl ⟨_, _, rfl, c_laws_toPolicy x0 hs_x0, rfl, ?_⟩
  repeat' (first | refine bsplit_true ?_ | refine bsplit_false ?_ | refine chk_intro (by kernel_rfl) ?_ | refine bsplit_of_false (by simp; done) ?_)
  refine .inl ⟨_, _, rfl, cs, rfl, ?_⟩
  repeat' (first | refine bsplit_true ?_ | refine bsplit_false ?_ | refine chk_intro (by kernel_rfl) ?_ | refine bsplit_of_false (by simp; done) ?_)
  refine .inl ⟨_, _, rfl, c_laws_toPolicy x0 hs_x0, rfl, ?_⟩
  repeat' (first | refine bsplit_true ?_ | refine bsplit_false ?_ | refine chk_intro (by kernel_rfl) ?_ | refine bsplit_of_false (by simp; done) ?_)
  refine .inl ⟨_, _, rfl, ci, rfl, ?_⟩
  repeat' (first | refine bsplit_true ?_ | refine bsplit_false ?_ | refine chk_intro (by kernel_rfl) ?_ | refine bsplit_of_false (by simp; done) ?_)
  refine .inl ⟨_, _, rfl, c_laws_toPolicy x0 hs_x0, rfl, ?_⟩
  repeat' (first | refine bsplit_true ?_ | refine bsplit_false ?_ | refine chk_intro (by kernel_rfl) ?_ | refine bsplit_of_false (by simp; done) ?_)
  refine .inl ⟨_, _, rfl, c_laws_eqPolicy x0 x0 hs_x0, rfl, ?_⟩
  repeat' (first | refine bsplit_true ?_ | refine bsplit_false ?_ | refine chk_intro (by kernel_rfl) ?_ | refine bsplit_of_false (by simp; done) ?_)
  exact ⟨⟨rfl, trivial⟩, rfl⟩

end Go.Proofs.Ytdpahckfibnagaa.L

/- The law function FnExactReachTo answers true. -/
set_option linter.unusedVariables false
set_option linter.unusedSimpArgs false
set_option maxRecDepth 100000
namespace Go.Proofs.Ytdpahckfibnagaa.L
open Go.RowKit
set_option maxHeartbeats 1600000 in
theorem c_laws_FnExactReachTo (x0 : PolM) (x1 : Int) (ho_x0 : x0.ok) (ho_x1 : ok64 x1) : FnOK Try.prog 12 [polLV x0, di x1] (rb true) := by
  have hs_x0 := ho_x0.small
  refine fn_of lv12 Try.func12 rfl rfl (by kernel_rfl) rfl ?_
  refine .inl ⟨_, _, rfl, c_laws_szPolicy x0 hs_x0 (1048576) (by omega) (by omega), rfl, ?_⟩
  refine bsplit_intro (fun h => ?_) (fun h => ?_)
  · exact ⟨⟨rfl, trivial⟩, rfl⟩
  have hf_x0 : (x0.size : Int) ≤ 1048576 := szP_of h
  have cs := c_spec_ReachTo x0 hs_x0 x1
  have ci := c_impl_ReachTo x0 hs_x0 x1
  have hf := reachTo0_few x0 x1
  obtain ⟨p, hp⟩ : ∃ p, p = reachTo0 x0 x1 := ⟨_, rfl⟩
  rw [← hp] at cs ci hf
  have hkp : 0 ≤ 1 + (p.2.length : Int) := by omega
  have hk : ¬ 1 + (p.2.length : Int) < 0 := by omega
  have hb0 := polK_b x0 (1) hf_x0 (by omega) (by omega)
  refine .inl ⟨_, _, rfl, c_laws_toPolicy x0 hs_x0, rfl, ?_⟩
  repeat' (first | refine bsplit_true ?_ | refine bsplit_false ?_ | refine chk_intro (by kernel_rfl) ?_ | refine bsplit_of_false (by simp; done) ?_)
  refine .inl ⟨_, _, rfl, cs, rfl, ?_⟩
  repeat' (first | refine bsplit_true ?_ | refine bsplit_false ?_ | refine chk_intro (by kernel_rfl) ?_ | refine bsplit_of_false (by simp; done) ?_)
  refine .inl ⟨_, _, rfl, c_laws_toPolicy x0 hs_x0, rfl, ?_⟩
  repeat' (first | refine bsplit_true ?_ | refine bsplit_false ?_ | refine chk_intro (by kernel_rfl) ?_ | refine bsplit_of_false (by simp; done) ?_)
  refine .inl ⟨_, _, rfl, ci, rfl, ?_⟩
  repeat' (first | refine bsplit_true ?_ | refine bsplit_false ?_ | refine chk_intro (by kernel_rfl) ?_ | refine bsplit_of_false (by simp; done) ?_)
  refine .inl ⟨_, _, rfl, c_laws_eqIntsResult p p (by omega), rfl, ?_⟩
  repeat' (first | refine bsplit_true ?_ | refine bsplit_false ?_ | refine chk_intro (by kernel_rfl) ?_ | refine bsplit_of_false (by simp; done) ?_)
  refine .inl ⟨_, _, rfl, c_laws_toPolicy x0 hs_x0, rfl, ?_⟩
  repeat' (first | refine bsplit_true ?_ | refine bsplit_false ?_ | refine chk_intro (by kernel_rfl) ?_ | refine bsplit_of_false (by simp; done) ?_)
  refine .inl ⟨_, _, rfl, c_laws_eqPolicy x0 x0 hs_x0, rfl, ?_⟩
  repeat' (first | refine bsplit_true ?_ | refine bsplit_false ?_ | refine chk_intro (by kernel_rfl) ?_ | refine bsplit_of_false (by simp; done) ?_)
  refine .inr ⟨rfl, use_mut ⟨_, _, _, _, _, _, rfl, rfl, c_laws_markPolicy x0 (1) hf_x0 (by omega) (by omega), rfl, ?_⟩⟩
  repeat' (first | refine bsplit_true ?_ | refine bsplit_false ?_ | refine chk_intro (by kernel_rfl) ?_)
  try refine bsplit_of_false (decide_eq_false (show ¬ (polK x0 (1)) < 0 by have := hb0.1; omega)) ?_
  repeat' (first | refine bsplit_true ?_ | refine bsplit_false ?_ | refine chk_intro (by kernel_rfl) ?_ | refine bsplit_of_false (by simp; done) ?_)
  refine .inl ⟨_, _, rfl, c_laws_eqIntsResult p p (by omega), rfl, ?_⟩
  repeat' (first | refine bsplit_true ?_ | refine bsplit_false ?_ | refine chk_intro (by kernel_rfl) ?_ | refine bsplit_of_false (by simp; done) ?_)
  refine .inr ⟨rfl, use_mut ⟨_, _, _, _, _, _, rfl, rfl, c_laws_markIntsResult p 1 (by omega) (by omega) (by omega), rfl, ?_⟩⟩
  repeat' (first | refine bsplit_true ?_ | refine bsplit_false ?_ | refine chk_intro (by kernel_rfl) ?_)
  refine .inl ⟨_, _, rfl, c_laws_heldIntsResult p 1 (by omega) (by omega) (by omega), rfl, ?_⟩
  repeat' (first | refine bsplit_true ?_ | refine bsplit_false ?_ | refine chk_intro (by kernel_rfl) ?_)
  try refine bsplit_of_false (decide_eq_false hk) ?_
  repeat' (first | refine bsplit_true ?_ | refine bsplit_false ?_ | refine chk_intro (by kernel_rfl) ?_ | refine bsplit_of_false (by simp; done) ?_)
  refine .inl ⟨_, _, rfl, c_laws_toPolicy x0 hs_x0, rfl, ?_⟩
  repeat' (first | refine bsplit_true ?_ | refine bsplit_false ?_ | refine chk_intro (by kernel_rfl) ?_ | refine bsplit_of_false (by simp; done) ?_)
  refine .inl ⟨_, _, rfl, ci, rfl, ?_⟩
  repeat' (first | refine bsplit_true ?_ | refine bsplit_false ?_ | refine chk_intro (by kernel_rfl) ?_ | refine bsplit_of_false (by simp; done) ?_)
  refine .inl ⟨_, _, rfl, c_laws_eqIntsResult p p (by omega), rfl, ?_⟩
  repeat' (first | refine bsplit_true ?_ | refine bsplit_false ?_ | refine chk_intro (by kernel_rfl) ?_ | refine bsplit_of_false (by simp; done) ?_)
  refine .inl ⟨_, _, rfl, c_laws_heldIntsResult p 1 (by omega) (by omega) (by omega), rfl, ?_⟩
  repeat' (first | refine bsplit_true ?_ | refine bsplit_false ?_ | refine chk_intro (by kernel_rfl) ?_)
  try refine bsplit_of_false (decide_eq_false hk) ?_
  repeat' (first | refine bsplit_true ?_ | refine bsplit_false ?_ | refine chk_intro (by kernel_rfl) ?_ | refine bsplit_of_false (by simp; done) ?_)
  exact ⟨⟨rfl, trivial⟩, rfl⟩

end Go.Proofs.Ytdpahckfibnagaa.L

/- The law FnExactReachTo answers true at every input that its statement lets in. -/
set_option linter.unusedVariables false
set_option maxRecDepth 100000
namespace Go.Proofs.Ytdpahckfibnagaa.L.FnExactReachTo
open Go.RowKit Go.ChangeShapes Go.WideShapes Go.ChangeAt
theorem lifted (os : Os) (started : os.Started) (H : Type) (enc : TypeId × Value → H) :
    ReturnsInHanded {} Try.checked os 12 .any (Rows.fnExactReachToSpec.pre6 enc Try.prog Try.f12 Rows.fnExactReachToRow.domain false) (Rows.fnExactReachToSpec.post enc Try.prog Try.f12 false true false false) := by
  refine returnsInHanded_of_change_sized (C := Try.checked) own started (by kernel_rfl) Try.func12
    (ChangeSpec.witness6 (enc := enc) (C := Try.checked) false ⟨#[], #[.agg #[.slice none 0 0, .slice none 0 0, .slice none 0 0, .slice none 0 0], .int .i64 0], []⟩ 8 (by kernel_rfl) (by kernel_rfl) (by kernel_rfl) (by kernel_rfl)) ?_
  intro W base args ds gs before hval0 hW hcnd hsz0 _
  have hsz : (DataW.weightsEach Try.prog (Try.f12.params.toList ++ Rows.fnExactReachToSpec.plain.varTypes Try.prog) (ds ++ gs)).all (· ≤ reachBytes) = true := hsz0
  have hval : ∀ (j : Nat) t v, Try.f12.params[j]? = some t → args[j]? = some v → Value.okWide Try.prog W .any base t v := hval0
  have hW' := hW
  obtain ⟨p, q, hA0, hV, rfl, hfz, hnd⟩ := hW
  have hA : DataW.TrodAll enc Try.prog W 0 (fun _ => true) true Try.f12.params.toList args.toList ds p := hA0
  rw [Try.params12] at hA hval hsz
  obtain ⟨v0, vs0, d0, ds0, p0, q0, hargs, rfl, rfl, h0, r0⟩ := trodAll_cons hA
  obtain ⟨v1, vs1, d1, ds1, p1, q1, rfl, rfl, rfl, h1, r1⟩ := trodAll_cons r0
  obtain ⟨rfl, rfl, rfl⟩ := trodAll_nil r1
  obtain rfl : args = #[v0, v1] := by cases args; simp_all
  obtain ⟨rfl, rfl⟩ := trodVars_none hV
  have hsm : ∀ k ∈ DataW.weightsEach Try.prog ([27, 2] ++ Rows.fnExactReachToSpec.plain.varTypes Try.prog) ([d0, d1] ++ []), k ≤ reachBytes := fun k hk => by simpa using List.all_eq_true.1 hsz k hk
  have k0 := h0
  have lt0 : ∀ x ∈ p0, x.block < W.heap.size := by obtain ⟨m, hm⟩ := k0; exact DataW.trod_lt m _ _ _ hm
  obtain ⟨m0, hm0, hvr0⟩ := reads_Policy.agg Try.underlying27 (hval 0 27 v0 rfl rfl) h0 (fun k hk => hsm k (DataW.weights_mem_each (j := 0) rfl rfl k hk))
  have k1 := h1
  have lt1 : ∀ x ∈ p1, x.block < W.heap.size := by obtain ⟨m, hm⟩ := k1; exact DataW.trod_lt m _ _ _ hm
  have c1 : v1.cells = #[v1] := by have z := okWide_int Try.underlying2 (hval 1 2 v1 rfl rfl); (first | (obtain ⟨_, rfl⟩ := z; rfl) | (obtain ⟨_, _, _, rfl⟩ := z; rfl))
  obtain ⟨m1, hm1, hvr1⟩ := reads_int64.one c1 h1 (fun k hk => hsm k (DataW.weights_mem_each (j := 1) rfl rfl k hk))
  refine ((c_laws_FnExactReachTo m0 m1 hm0 hm1).calls W (Mem W) [v0, v1] (fun b hb => hb) rfl (fun j hj => ?_)).mono fun e W' ⟨v, he, bel, hrr⟩ => ?_
  · match j, hj with
    | 0, _ => exact hvr0
    | 1, _ => exact hvr1
    | j + 2, hj => exact absurd hj (by simp)
  · obtain ⟨us, J, hl, rfl, hJ, hok, _, _⟩ := hrr.ex
    have h1 := hok 0 _ rfl
    have h2 : RV.val us (rb true) = .bool true := h1
    rw [h2] at he
    subst he
    exact ⟨_, rfl, _, _, _, [], _, [], hW', trodAll_mk1 (shut_bool Try.underlying4 _), (trodAll_cons_mk (Below.trod laidOut (by kernel_rfl) (of_decide_eq_true (by kernel_rfl)) k0 bel lt0) (trodAll_cons_mk (Below.trod laidOut (by kernel_rfl) (of_decide_eq_true (by kernel_rfl)) k1 bel lt1) trodAll_mk0)), rfl, bel.frame _, fun h => by cases h⟩
theorem over : Rows.fnExactReachToRow.holds Try.pinned (OpenSpec.ofChange Rows.fnExactReachToSpec) :=
  OpenClaim.holds_of_wide 12 Try.f12 rfl rfl rfl rfl rfl rfl rfl ⟨rfl, rfl, rfl, rfl, rfl⟩ rfl rfl rfl rfl rfl (by kernel_rfl) Try.func12 (by kernel_rfl)
    (of_decide_eq_true (by kernel_rfl)) (by unfold Func.isWrapper; first | (rw [if_pos (by decide +kernel)]; kernel_rfl) | (rw [if_neg (by decide +kernel)]; exact ⟨rfl, rfl⟩))
    (fun os started H enc _ => lifted os started H enc)
end Go.Proofs.Ytdpahckfibnagaa.L.FnExactReachTo
namespace Go.Proofs.Ytdpahckfibnagaa
theorem fnExactReachTo_holds : Rows.FnExactReachToSaid := L.FnExactReachTo.over
#print axioms fnExactReachTo_holds
end Go.Proofs.Ytdpahckfibnagaa
