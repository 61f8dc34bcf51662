/- The law FnExactLinksTo answers true at every input that its statement lets in. -/
import Derived.Test.YtdpahckfibnagaaRows
import Derived.Test.YtdpahckfibnagaaZ1
/- Who has a link to a guest: the reference and the program. -/
set_option linter.unusedVariables false
set_option linter.unusedSimpArgs false
set_option maxRecDepth 100000
namespace Go.Proofs.Ytdpahckfibnagaa.L
open Go.RowKit
abbrev stepL (g : Int) (S : List Int) (z : LaneM) : List Int := if z.to = g then rise S z.frm else S
abbrev stepB (g : Int) (S : List Int) (z : BellM) : List Int := if z.to = g then rise S z.frm else S
def linkS (x : PolM) (g : Int) : List Int := x.bls.foldl (stepB g) (x.lns.foldl (stepL g) [])
theorem stepL_len (g : Int) (S : List Int) (z : LaneM) : (stepL g S z).length ≤ S.length + 1 := by
  unfold stepL
  split
  · exact rise_len _ _
  · omega
theorem stepB_len (g : Int) (S : List Int) (z : BellM) : (stepB g S z).length ≤ S.length + 1 := by
  unfold stepB
  split
  · exact rise_len _ _
  · omega
set_option maxHeartbeats 1600000 in
theorem c_spec_l6Links (x : PolM) (hl : x.lns.length ≤ 4) (hb : x.bls.length ≤ 4) (g : Int) : FnOK Try.prog 91 [polP x, di g] (.r (.one (.sh (ints (linkS x g))))) := by
  obtain ⟨V, hV⟩ : ∃ V, V = x.lns.foldl (stepL g) [] := ⟨_, rfl⟩
  obtain ⟨R, hR⟩ : ∃ R, R = linkS x g := ⟨_, rfl⟩
  rw [← hR]
  unfold linkS at hR
  rw [← hV] at hR
  refine fn_of lv91 Try.func91 rfl rfl (by kernel_rfl) rfl ?_
  refine ⟨{ p : Nat × List Int // p.1 ≤ x.lns.length ∧ p.2.length ≤ p.1 ∧ (x.lns.drop p.1).foldl (stepL g) p.2 = V }, fun p => ⟨frL [(0, polP x), (1, di g), (5, .d (ints p.1.2)), (6, di p.1.1)], hpL [], 97, 0⟩, fun p => x.lns.length - p.1.1, ⟨(0, []), by omega, by simp, hV.symm⟩,
    le_of [] rfl rfl rfl rfl trivial (tellFr_x rfl ⟨DLe.refl _, DLe.refl _, DLe.refl _, DLe.refl _, trivial⟩ (tellFr_v rfl rfl (tellFr_x rfl (tellV_frz rfl rfl rfl (DLe.l rfl (fun j hj => absurd hj (by omega)))) (tellFr_v rfl rfl trivial)))), ?_⟩
  rintro ⟨⟨i, S⟩, hi, hSl, hall⟩
  simp only at hi hSl hall
  by_cases h1 : i < x.lns.length
  · rw [drop_consG ⟨0, 0, 0, 0, 0⟩ x.lns i h1, List.foldl_cons] at hall
    have hwr := congrArg (Value.int .i64) (wrap1 h1 (by omega))
    have hl2 := stepL_len g S (x.lns.getD i ⟨0, 0, 0, 0, 0⟩)
    have c1 := c_spec_l1Rise S (x.lns.getD i ⟨0, 0, 0, 0, 0⟩).frm (by omega)
    refine bsplit_of_true (decide_eq_true (show (i : Int) < (x.lns.length : Int) by omega)) ?_
    refine ask_intro ⟨by omega, by show (i : Int) < (x.lns.length : Int); omega, rfl⟩ ?_
    by_cases h2 : (x.lns.getD i ⟨0, 0, 0, 0, 0⟩).to = g
    · have e : stepL g S (x.lns.getD i ⟨0, 0, 0, 0, 0⟩) = rise S (x.lns.getD i ⟨0, 0, 0, 0, 0⟩).frm := if_pos h2
      rw [e] at hall hl2
      refine bsplit_of_true (beq_iff_eq.2 h2) ?_
      refine ask_intro ⟨by omega, by show (i : Int) < (x.lns.length : Int); omega, rfl⟩ ?_
      refine .inl ⟨_, _, rfl, c1, rfl, ?_⟩
      exact ⟨⟨(i + 1, rise S (x.lns.getD i ⟨0, 0, 0, 0, 0⟩).frm), by show i + 1 ≤ _; omega, by show (rise S _).length ≤ i + 1; omega, hall⟩, le_of [] rfl rfl rfl rfl trivial (tellFr_x rfl ⟨DLe.refl _, DLe.refl _, DLe.refl _, DLe.refl _, trivial⟩ (tellFr_v rfl rfl (tellFr_d rfl (DLe.refl _) (tellFr_v rfl hwr trivial)))), by show x.lns.length - (i + 1) < x.lns.length - i; omega⟩
    · have e : stepL g S (x.lns.getD i ⟨0, 0, 0, 0, 0⟩) = S := if_neg h2
      rw [e] at hall
      refine bsplit_of_false (beq_eq_false_iff_ne.2 h2) ?_
      exact ⟨⟨(i + 1, S), by show i + 1 ≤ _; omega, by show S.length ≤ i + 1; omega, hall⟩, le_of [] rfl rfl rfl rfl trivial (tellFr_x rfl ⟨DLe.refl _, DLe.refl _, DLe.refl _, DLe.refl _, trivial⟩ (tellFr_v rfl rfl (tellFr_d rfl (DLe.refl _) (tellFr_v rfl hwr trivial)))), by show x.lns.length - (i + 1) < x.lns.length - i; omega⟩
  rw [List.drop_eq_nil_of_le (by omega)] at hall
  have hall : S = V := hall
  subst hall
  refine bsplit_of_false (decide_eq_false (show ¬ (i : Int) < (x.lns.length : Int) by omega)) ?_
  refine ⟨{ p : Nat × List Int // p.1 ≤ x.bls.length ∧ p.2.length ≤ p.1 + 4 ∧ (x.bls.drop p.1).foldl (stepB g) p.2 = R }, fun p => ⟨frL [(0, polP x), (1, di g), (5, .d (ints p.1.2)), (7, di p.1.1)], hpL [], 97, 0⟩, fun p => x.bls.length - p.1.1, ⟨(0, S), by omega, by show S.length ≤ 0 + 4; omega, hR.symm⟩,
    le_of [] rfl rfl rfl rfl trivial (tellFr_x rfl ⟨DLe.refl _, DLe.refl _, DLe.refl _, DLe.refl _, trivial⟩ (tellFr_v rfl rfl (tellFr_d rfl (DLe.refl _) (tellFr_v rfl rfl trivial)))), ?_⟩
  rintro ⟨⟨k, T⟩, hk, hTl, hall⟩
  simp only at hk hTl hall
  by_cases h1 : k < x.bls.length
  · rw [drop_consG ⟨0, 0⟩ x.bls k h1, List.foldl_cons] at hall
    have hwr := congrArg (Value.int .i64) (wrap1 h1 (by omega))
    have hl2 := stepB_len g T (x.bls.getD k ⟨0, 0⟩)
    have c1 := c_spec_l1Rise T (x.bls.getD k ⟨0, 0⟩).frm (by omega)
    refine bsplit_of_true (decide_eq_true (show (k : Int) < (x.bls.length : Int) by omega)) ?_
    refine ask_intro ⟨by omega, by show (k : Int) < (x.bls.length : Int); omega, rfl⟩ ?_
    by_cases h2 : (x.bls.getD k ⟨0, 0⟩).to = g
    · have e : stepB g T (x.bls.getD k ⟨0, 0⟩) = rise T (x.bls.getD k ⟨0, 0⟩).frm := if_pos h2
      rw [e] at hall hl2
      refine bsplit_of_true (beq_iff_eq.2 h2) ?_
      refine ask_intro ⟨by omega, by show (k : Int) < (x.bls.length : Int); omega, rfl⟩ ?_
      refine .inl ⟨_, _, rfl, c1, rfl, ?_⟩
      exact ⟨⟨(k + 1, rise T (x.bls.getD k ⟨0, 0⟩).frm), by show k + 1 ≤ _; omega, by show (rise T _).length ≤ k + 1 + 4; omega, hall⟩, le_of [] rfl rfl rfl rfl trivial (tellFr_x rfl ⟨DLe.refl _, DLe.refl _, DLe.refl _, DLe.refl _, trivial⟩ (tellFr_v rfl rfl (tellFr_d rfl (DLe.refl _) (tellFr_v rfl hwr trivial)))), by show x.bls.length - (k + 1) < x.bls.length - k; omega⟩
    · have e : stepB g T (x.bls.getD k ⟨0, 0⟩) = T := if_neg h2
      rw [e] at hall
      refine bsplit_of_false (beq_eq_false_iff_ne.2 h2) ?_
      exact ⟨⟨(k + 1, T), by show k + 1 ≤ _; omega, by show T.length ≤ k + 1 + 4; omega, hall⟩, le_of [] rfl rfl rfl rfl trivial (tellFr_x rfl ⟨DLe.refl _, DLe.refl _, DLe.refl _, DLe.refl _, trivial⟩ (tellFr_v rfl rfl (tellFr_d rfl (DLe.refl _) (tellFr_v rfl hwr trivial)))), by show x.bls.length - (k + 1) < x.bls.length - k; omega⟩
  rw [List.drop_eq_nil_of_le (by omega)] at hall
  have hall : T = R := hall
  subst hall
  refine bsplit_of_false (decide_eq_false (show ¬ (k : Int) < (x.bls.length : Int) by omega)) ?_
  exact ⟨⟨DLe.refl _, trivial⟩, rfl⟩
end Go.Proofs.Ytdpahckfibnagaa.L

/- Who has a link to a guest: the plain law. -/
set_option linter.unusedVariables false
set_option linter.unusedSimpArgs false
set_option maxRecDepth 100000
namespace Go.Proofs.Ytdpahckfibnagaa.L
open Go.RowKit
theorem rising_ext : ∀ (l m : List Int), l.Pairwise (· < ·) → m.Pairwise (· < ·) → (∀ a, a ∈ l ↔ a ∈ m) → l = m
  | [], [], _, _, _ => rfl
  | [], b :: m, _, _, h => absurd ((h b).2 (by simp)) (by simp)
  | a :: l, [], _, _, h => absurd ((h a).1 (by simp)) (by simp)
  | a :: l, b :: m, hl, hm, h => by
    obtain ⟨l1, l2⟩ := List.pairwise_cons.1 hl
    obtain ⟨m1, m2⟩ := List.pairwise_cons.1 hm
    have e : a = b := by
      rcases List.mem_cons.1 ((h a).1 (by simp)) with e | e
      · exact e
      · rcases List.mem_cons.1 ((h b).2 (by simp)) with e2 | e2
        · exact e2.symm
        · have := m1 a e; have := l1 b e2; omega
    subst e
    rw [rising_ext l m l2 m2 fun x => ?_]
    constructor
    · intro hx
      rcases List.mem_cons.1 ((h x).1 (List.mem_cons_of_mem _ hx)) with e | e
      · have := l1 x hx; omega
      · exact e
    · intro hx
      rcases List.mem_cons.1 ((h x).2 (List.mem_cons_of_mem _ hx)) with e | e
      · have := m1 x hx; omega
      · exact e
theorem mem_rise {l : List Int} {v a : Int} : a ∈ rise l v ↔ a ∈ l ∨ a = v := by
  unfold rise
  split
  · rename_i h
    constructor
    · exact .inl
    · rintro (h2 | rfl)
      · exact h2
      · have e := h.2
        rw [getD_at 0 h.1] at e
        rw [← e]
        exact List.getElem_mem _
  · have e : l.take (riseAt l v) ++ l.drop (riseAt l v) = l := List.take_append_drop _ _
    constructor
    · intro h
      rcases List.mem_append.1 h with h | h
      · exact .inl (by rw [← e]; exact List.mem_append_left _ h)
      · rcases List.mem_cons.1 h with h | h
        · exact .inr h
        · exact .inl (by rw [← e]; exact List.mem_append_right _ h)
    · rintro (h | rfl)
      · rw [← e] at h
        rcases List.mem_append.1 h with h | h
        · exact List.mem_append_left _ h
        · exact List.mem_append_right _ (List.mem_cons_of_mem _ h)
      · exact List.mem_append_right _ (by simp)
theorem rise_rising {l : List Int} {v : Int} (h : l.Pairwise (· < ·)) : (rise l v).Pairwise (· < ·) := by
  unfold rise
  split
  · exact h
  · rename_i hn
    have e : l.take (riseAt l v) ++ l.drop (riseAt l v) = l := List.take_append_drop _ _
    have h0 := h
    rw [← e, List.pairwise_append] at h0
    obtain ⟨p1, p2, p3⟩ := h0
    have lo : ∀ a ∈ l.take (riseAt l v), a < v := by
      intro a ha
      obtain ⟨j, hj, rfl⟩ := List.getElem_of_mem ha
      rw [List.length_take] at hj
      rw [List.getElem_take]
      have := List.not_of_lt_findIdx (p := fun a => !decide (a < v)) (xs := l) (i := j) (by show j < riseAt l v; omega)
      simpa using this
    have hi : ∀ b ∈ l.drop (riseAt l v), v < b := by
      intro b hb
      by_cases hlt : riseAt l v < l.length
      · have h1 : ¬ l[riseAt l v] < v := by
          have this : (!decide (l[riseAt l v] < v)) = true := List.findIdx_getElem (p := fun a => !decide (a < v)) (xs := l) (w := hlt)
          intro hc
          rw [decide_eq_true hc] at this
          exact absurd this (by decide)
        have h2 : l[riseAt l v] ≠ v := fun e => hn ⟨hlt, by rw [getD_at 0 hlt]; exact e⟩
        rw [List.drop_eq_getElem_cons hlt] at hb p2
        rcases List.mem_cons.1 hb with e | e
        · subst e; omega
        · have := (List.pairwise_cons.1 p2).1 b e; omega
      · rw [List.drop_eq_nil_of_le (by omega)] at hb
        simp at hb
    rw [List.pairwise_append, List.pairwise_cons]
    refine ⟨p1, ⟨hi, p2⟩, fun a ha b hb => ?_⟩
    rcases List.mem_cons.1 hb with e | e
    · subst e; exact lo a ha
    · exact p3 a ha b e
theorem mem_freeR {p : Int → Bool} : ∀ {n : Nat} {v a : Int}, a ∈ freeR p n v ↔ v ≤ a ∧ a < v + n ∧ p a = true
  | 0, v, a => by
    constructor
    · intro h; simp [freeR] at h
    · intro h; omega
  | n + 1, v, a => by
    have ih := mem_freeR (p := p) (n := n) (v := v + 1) (a := a)
    unfold freeR
    split
    · rename_i h
      rw [List.mem_cons, ih]
      constructor
      · rintro (rfl | h2)
        · exact ⟨by omega, by omega, h⟩
        · exact ⟨by omega, by omega, h2.2.2⟩
      · intro h2
        by_cases e : a = v
        · exact .inl e
        · exact .inr ⟨by omega, by omega, h2.2.2⟩
    · rename_i h
      rw [ih]
      constructor
      · intro h2; exact ⟨by omega, by omega, h2.2.2⟩
      · intro h2
        have e : a ≠ v := by rintro rfl; exact h h2.2.2
        exact ⟨by omega, by omega, h2.2.2⟩
theorem freeR_rising {p : Int → Bool} : ∀ {n : Nat} {v : Int}, (freeR p n v).Pairwise (· < ·)
  | 0, v => List.Pairwise.nil
  | n + 1, v => by
    have ih := freeR_rising (p := p) (n := n) (v := v + 1)
    unfold freeR
    split
    · refine List.pairwise_cons.2 ⟨fun a ha => ?_, ih⟩
      have := (mem_freeR.1 ha).1
      omega
    · exact ih
theorem foldL_mem (g : Int) : ∀ (l : List LaneM) (S : List Int) (a : Int), a ∈ l.foldl (stepL g) S ↔ a ∈ S ∨ l.any (laneAB a g) = true
  | [], S, a => by simp
  | z :: l, S, a => by
    rw [List.foldl_cons, foldL_mem g l, List.any_cons]
    unfold stepL
    by_cases h : z.to = g
    · rw [if_pos h, mem_rise]
      simp only [laneAB, h, beq_self_eq_true, Bool.and_true, Bool.or_eq_true, beq_iff_eq]
      constructor
      · rintro ((h1 | h1) | h1)
        · exact .inl h1
        · exact .inr (.inl h1.symm)
        · exact .inr (.inr h1)
      · rintro (h1 | h1 | h1)
        · exact .inl (.inl h1)
        · exact .inl (.inr h1.symm)
        · exact .inr h1
    · rw [if_neg h]
      simp [laneAB, h]
theorem foldB_mem (g : Int) : ∀ (l : List BellM) (S : List Int) (a : Int), a ∈ l.foldl (stepB g) S ↔ a ∈ S ∨ l.any (fun z => z == ⟨a, g⟩) = true
  | [], S, a => by simp
  | z :: l, S, a => by
    rw [List.foldl_cons, foldB_mem g l, List.any_cons]
    unfold stepB
    obtain ⟨f, t⟩ := z
    by_cases h : t = g
    · rw [if_pos h, mem_rise, h]
      have e : ((⟨f, g⟩ : BellM) == ⟨a, g⟩) = (f == a) := by
        by_cases h2 : f = a
        · subst h2; simp
        · rw [beq_eq_false_iff_ne.2 h2, beq_eq_false_iff_ne]
          intro e; exact h2 (BellM.mk.inj e).1
      rw [e]
      simp only [Bool.or_eq_true, beq_iff_eq]
      constructor
      · rintro ((h1 | h1) | h1)
        · exact .inl h1
        · exact .inr (.inl h1.symm)
        · exact .inr (.inr h1)
      · rintro (h1 | h1 | h1)
        · exact .inl (.inl h1)
        · exact .inl (.inr h1.symm)
        · exact .inr h1
    · rw [if_neg h]
      have e : ((⟨f, t⟩ : BellM) == ⟨a, g⟩) = false := by
        rw [beq_eq_false_iff_ne]
        intro e; exact h (BellM.mk.inj e).2
      rw [e, Bool.false_or]
theorem foldL_rising (g : Int) : ∀ (l : List LaneM) (S : List Int), S.Pairwise (· < ·) → (l.foldl (stepL g) S).Pairwise (· < ·)
  | [], S, h => h
  | z :: l, S, h => by
    rw [List.foldl_cons]
    refine foldL_rising g l _ ?_
    unfold stepL
    split
    · exact rise_rising h
    · exact h
theorem foldB_rising (g : Int) : ∀ (l : List BellM) (S : List Int), S.Pairwise (· < ·) → (l.foldl (stepB g) S).Pairwise (· < ·)
  | [], S, h => h
  | z :: l, S, h => by
    rw [List.foldl_cons]
    refine foldB_rising g l _ ?_
    unfold stepB
    split
    · exact rise_rising h
    · exact h
theorem mem_linkS {x : PolM} {g a : Int} : a ∈ linkS x g ↔ linked x a g = true := by
  unfold linkS linked
  rw [foldB_mem, foldL_mem]
  simp
theorem links_eq {x : PolM} {g : Int} (h : ∀ a, linked x a g = true → 0 ≤ a ∧ a < (x.own.length : Int)) : linkS x g = linksL x g := by
  refine rising_ext _ _ (foldB_rising g _ _ (foldL_rising g _ _ List.Pairwise.nil)) freeR_rising fun a => ?_
  rw [mem_linkS]
  unfold linksL
  rw [mem_freeR]
  constructor
  · intro h2
    have := h a h2
    exact ⟨by omega, by omega, h2⟩
  · intro h2; exact h2.2.2
theorem lanes_ends (own : List (List Int)) : ∀ (l ah : List LaneM), lanesBad own ah l = 0 → ∀ m ∈ l, endsF own.length m.frm m.to = 0
  | [], _, _, m, hm => by simp at hm
  | z :: l, ah, h, m, hm => by
    unfold lanesBad at h
    split at h
    · rename_i h1
      rcases List.mem_cons.1 hm with rfl | hm
      · unfold laneBad at h1
        split at h1
        · assumption
        · rename_i h2; exact absurd h1 h2
      · exact lanes_ends own l _ h m hm
    · rename_i h1; exact absurd h h1
theorem bells_ends (n : Nat) : ∀ (l ah : List BellM), bellsBad n ah l = 0 → ∀ m ∈ l, endsF n m.frm m.to = 0
  | [], _, _, m, hm => by simp at hm
  | z :: l, ah, h, m, hm => by
    unfold bellsBad at h
    split at h
    · rename_i h1
      rcases List.mem_cons.1 hm with rfl | hm
      · unfold bellBad at h1
        split at h1
        · assumption
        · rename_i h2; exact absurd h1 h2
      · exact bells_ends n l _ h m hm
    · rename_i h1; exact absurd h h1
theorem bif_zer {b : Bool} {x : Int} {n : Int} (h : (bif b then n else x) = 0) (hn : n ≠ 0) : b = false ∧ x = 0 := by cases b <;> simp_all
theorem pol_links {x : PolM} (h : polFault x = 0) : x.lns.length ≤ 4 ∧ x.bls.length ≤ 4 ∧ lanesBad x.own [] x.lns = 0 ∧ bellsBad x.own.length [] x.bls = 0 := by
  unfold polFault at h
  split at h
  · obtain ⟨h1, h⟩ := bif_zer h (by decide)
    simp only [Bool.or_eq_false_iff, decide_eq_false_iff_not] at h1
    split at h
    · rename_i h2
      split at h
      · rename_i h3; exact ⟨by omega, by omega, h2, h3⟩
      · rename_i h3; exact absurd h h3
    · rename_i h2; exact absurd h h2
  · rename_i h1; exact absurd h h1
theorem ends_frm {n : Nat} {a b : Int} (h : endsF n a b = 0) : 0 ≤ a ∧ a < (n : Int) := by
  unfold endsF at h
  obtain ⟨h1, _⟩ := bif_zer h (by decide)
  simp only [Bool.or_eq_false_iff, Bool.not_eq_eq_eq_not, Bool.not_false] at h1
  have := inR_iff.1 (show inR a 0 _ = true from h1.1)
  omega
theorem linked_guest {x : PolM} (h : polFault x = 0) (g : Int) (a : Int) (hl : linked x a g = true) : 0 ≤ a ∧ a < (x.own.length : Int) := by
  obtain ⟨_, _, h1, h2⟩ := pol_links h
  unfold linked at hl
  rcases Bool.or_eq_true_iff.1 hl with hl | hl
  · obtain ⟨z, hz, hz2⟩ := List.any_eq_true.1 hl
    have e := lanes_ends x.own x.lns [] h1 z hz
    simp only [laneAB, Bool.and_eq_true, beq_iff_eq] at hz2
    rw [hz2.1] at e
    exact ends_frm e
  · obtain ⟨z, hz, hz2⟩ := List.any_eq_true.1 hl
    have e := bells_ends x.own.length x.bls [] h2 z hz
    obtain rfl : z = ⟨a, g⟩ := beq_iff_eq.1 hz2
    exact ends_frm e
theorem asked_pol {x : PolM} {g : Int} (h : askedG x g = 0) : polFault x = 0 := by
  unfold askedG at h
  split at h
  · assumption
  · rename_i e; exact absurd h e
abbrev irsSh (p : Int × List Int) : RV1 := .agg [.v (.int .i64 p.1), .sh (ints p.2)]
theorem c_spec_LinksTo (x : PolM) (hs : x.small) (g : Int) : FnOK Try.prog 40 [polLV x, di g] (.r (irsSh (linksTo x g))) := by
  have c1 := c_spec_l6Asked x hs g
  obtain ⟨r, hr⟩ : ∃ r, r = linksTo x g := ⟨_, rfl⟩
  rw [← hr]
  unfold linksTo at hr
  by_cases h : askedG x g = 0
  · have hp := asked_pol h
    obtain ⟨q1, q2, _, _⟩ := pol_links hp
    have c2 := c_spec_l6Links x q1 q2 g
    rw [links_eq (linked_guest hp g)] at c2
    rw [if_pos h] at hr
    rw [h] at c1
    subst hr
    refine fn_of lv40 Try.func40 rfl rfl (by kernel_rfl) rfl ?_
    refine .inl ⟨_, _, rfl, c1, rfl, ?_⟩
    repeat' (first | refine bsplit_true ?_ | refine bsplit_false ?_)
    refine .inl ⟨_, _, rfl, c2, rfl, ?_⟩
    exact ⟨⟨rfl, DLe.refl _, trivial⟩, rfl⟩
  · rw [if_neg h] at hr
    subst hr
    generalize askedG x g = e at *
    refine fn_of lv40 Try.func40 rfl rfl (by kernel_rfl) rfl ?_
    refine .inl ⟨_, _, rfl, c1, rfl, ?_⟩
    refine bsplit_of_true (by simpa using h) ?_
    exact ⟨⟨rfl, DLe.nil _, trivial⟩, rfl⟩
theorem linksTo_few (x : PolM) (g : Int) : (linksTo x g).2.length ≤ 1048576 := by
  unfold linksTo
  split
  · rename_i h
    have hp := asked_pol h
    have := freeR_len (fun k => linked x k g) x.own.length 0
    have hf : x.own.length ≤ 3 := by
      unfold polFault at hp
      split at hp
      · rename_i ho
        unfold ownBad at ho
        cases hq : inR (x.own.length : Int) 1 3 with
        | false => rw [hq] at ho; simp at ho
        | true => have := inR_iff.1 hq; omega
      · rename_i ho; exact absurd hp ho
    show (freeR _ _ _).length ≤ _
    omega
  · simp
end Go.Proofs.Ytdpahckfibnagaa.L

/- What the law functions compute that mark policies: contracts. -/
set_option linter.unusedVariables false
set_option linter.unusedSimpArgs false
set_option maxRecDepth 100000
namespace Go.Proofs.Ytdpahckfibnagaa.L
open Go.RowKit
abbrev rowLane (l : List LaneM) : Ent := .row 84 5 l.length (lanesF l)
abbrev laneMk (k : Int) (j : Nat) : List D := [.v (.int .i64 (k + 5 * (j : Int))), .v (.int .i64 (k + 5 * (j : Int) + 1)), .v (.int .i64 (k + 5 * (j : Int) + 2)), .v (.int .i64 (k + 5 * (j : Int) + 3)), .v (.int .i64 (k + 5 * (j : Int) + 4))]
set_option maxHeartbeats 1600000 in
theorem c_laws_markLaneS (l : List LaneM) (k : Int) (hl : l.length ≤ 109951162777) (hk : 0 ≤ k) (hk2 : k ≤ 1099511627776) :
    MutOK Try.prog 87 [.row 0, di k] 1 [(0, rowLane l)] (di (k + 5 * l.length)) 1 [(0, .row 84 5 l.length (laneMk k))] := by
  refine mut_fn_of lv87 Try.func87 rfl rfl (by kernel_rfl) rfl [] ?_
  refine ⟨{ i : Nat // i ≤ l.length }, fun i => ⟨frL [(0, .row 0), (1, di (k + 5 * (i.1 : Int))), (5, di i.1)], hpL [(0, .row 84 5 l.length fun j => if j < i.1 then laneMk k j else lanesF l j)], 1, 1⟩, fun i => l.length - i.1, ⟨0, by omega⟩,
    le_of [] rfl rfl rfl rfl (tellHp_row rfl rfl rfl (fun i hi => rfl) tellHp_nil) (tellFr_row rfl rfl (tellFr_v rfl (congrArg (Value.int .i64) (?_ : k = k + 5 * ((0 : Nat) : Int))) (tellFr_v rfl rfl trivial))), ?_⟩
  · omega
  rintro ⟨i, hi⟩
  refine bsplit_intro (fun h => ?_) (fun h => ?_)
  · have h : i < l.length := by simp at h; exact h
    have w1 : IntKind.i64.wrap (k + 5 * (i : Int) + 1) = k + 5 * (i : Int) + 1 := (wrap_i64 _ (by omega) (by omega)).trans (by omega)
    have w2 : IntKind.i64.wrap (k + 5 * (i : Int) + 1 + 1) = k + 5 * (i : Int) + 2 := (wrap_i64 _ (by omega) (by omega)).trans (by omega)
    have w3 : IntKind.i64.wrap (k + 5 * (i : Int) + 2 + 1) = k + 5 * (i : Int) + 3 := (wrap_i64 _ (by omega) (by omega)).trans (by omega)
    have w4 : IntKind.i64.wrap (k + 5 * (i : Int) + 3 + 1) = k + 5 * (i : Int) + 4 := (wrap_i64 _ (by omega) (by omega)).trans (by omega)
    refine ask_intro ⟨by omega, by show (i : Int) < (l.length : Int); omega⟩ ?_
    refine ask_intro (by show i < l.length; exact h) ?_
    refine ask_intro ⟨by omega, by show (i : Int) < (l.length : Int); omega⟩ ?_
    refine ask_intro (by show i < l.length; exact h) ?_
    refine ask_intro ⟨by omega, by show (i : Int) < (l.length : Int); omega⟩ ?_
    refine ask_intro (by show i < l.length; exact h) ?_
    refine ask_intro ⟨by omega, by show (i : Int) < (l.length : Int); omega⟩ ?_
    refine ask_intro (by show i < l.length; exact h) ?_
    refine ask_intro ⟨by omega, by show (i : Int) < (l.length : Int); omega⟩ ?_
    refine ask_intro (by show i < l.length; exact h) ?_
    refine ⟨⟨i + 1, by omega⟩, le_of [] rfl rfl rfl rfl (tellHp_row rfl rfl rfl (fun j hj => ?_) tellHp_nil) (tellFr_row rfl rfl (tellFr_v rfl (congrArg (Value.int .i64) (?_ : IntKind.i64.wrap (IntKind.i64.wrap (IntKind.i64.wrap (IntKind.i64.wrap (IntKind.i64.wrap (k + 5 * (i : Int) + 1) + 1) + 1) + 1) + 1) = k + 5 * ((i + 1 : Nat) : Int))) (tellFr_v rfl (congrArg (Value.int .i64) (?_ : IntKind.i64.wrap ((i : Int) + 1) = ((i + 1 : Nat) : Int))) trivial))), by show l.length - (i + 1) < l.length - i; omega⟩
    · show (if j = i then splice (if j = i then splice (if j = i then splice (if j = i then splice (if j = i then splice (if j < i then laneMk k j else lanesF l j) 0 [D.v (.int .i64 (k + 5 * (i : Int)))] else (if j < i then laneMk k j else lanesF l j)) 1 [D.v (.int .i64 (IntKind.i64.wrap (k + 5 * (i : Int) + 1)))] else (if j = i then splice (if j < i then laneMk k j else lanesF l j) 0 [D.v (.int .i64 (k + 5 * (i : Int)))] else (if j < i then laneMk k j else lanesF l j))) 2 [D.v (.int .i64 (IntKind.i64.wrap (IntKind.i64.wrap (k + 5 * (i : Int) + 1) + 1)))] else (if j = i then splice (if j = i then splice (if j < i then laneMk k j else lanesF l j) 0 [D.v (.int .i64 (k + 5 * (i : Int)))] else (if j < i then laneMk k j else lanesF l j)) 1 [D.v (.int .i64 (IntKind.i64.wrap (k + 5 * (i : Int) + 1)))] else (if j = i then splice (if j < i then laneMk k j else lanesF l j) 0 [D.v (.int .i64 (k + 5 * (i : Int)))] else (if j < i then laneMk k j else lanesF l j)))) 3 [D.v (.int .i64 (IntKind.i64.wrap (IntKind.i64.wrap (IntKind.i64.wrap (k + 5 * (i : Int) + 1) + 1) + 1)))] else (if j = i then splice (if j = i then splice (if j = i then splice (if j < i then laneMk k j else lanesF l j) 0 [D.v (.int .i64 (k + 5 * (i : Int)))] else (if j < i then laneMk k j else lanesF l j)) 1 [D.v (.int .i64 (IntKind.i64.wrap (k + 5 * (i : Int) + 1)))] else (if j = i then splice (if j < i then laneMk k j else lanesF l j) 0 [D.v (.int .i64 (k + 5 * (i : Int)))] else (if j < i then laneMk k j else lanesF l j))) 2 [D.v (.int .i64 (IntKind.i64.wrap (IntKind.i64.wrap (k + 5 * (i : Int) + 1) + 1)))] else (if j = i then splice (if j = i then splice (if j < i then laneMk k j else lanesF l j) 0 [D.v (.int .i64 (k + 5 * (i : Int)))] else (if j < i then laneMk k j else lanesF l j)) 1 [D.v (.int .i64 (IntKind.i64.wrap (k + 5 * (i : Int) + 1)))] else (if j = i then splice (if j < i then laneMk k j else lanesF l j) 0 [D.v (.int .i64 (k + 5 * (i : Int)))] else (if j < i then laneMk k j else lanesF l j))))) 4 [D.v (.int .i64 (IntKind.i64.wrap (IntKind.i64.wrap (IntKind.i64.wrap (IntKind.i64.wrap (k + 5 * (i : Int) + 1) + 1) + 1) + 1)))] else (if j = i then splice (if j = i then splice (if j = i then splice (if j = i then splice (if j < i then laneMk k j else lanesF l j) 0 [D.v (.int .i64 (k + 5 * (i : Int)))] else (if j < i then laneMk k j else lanesF l j)) 1 [D.v (.int .i64 (IntKind.i64.wrap (k + 5 * (i : Int) + 1)))] else (if j = i then splice (if j < i then laneMk k j else lanesF l j) 0 [D.v (.int .i64 (k + 5 * (i : Int)))] else (if j < i then laneMk k j else lanesF l j))) 2 [D.v (.int .i64 (IntKind.i64.wrap (IntKind.i64.wrap (k + 5 * (i : Int) + 1) + 1)))] else (if j = i then splice (if j = i then splice (if j < i then laneMk k j else lanesF l j) 0 [D.v (.int .i64 (k + 5 * (i : Int)))] else (if j < i then laneMk k j else lanesF l j)) 1 [D.v (.int .i64 (IntKind.i64.wrap (k + 5 * (i : Int) + 1)))] else (if j = i then splice (if j < i then laneMk k j else lanesF l j) 0 [D.v (.int .i64 (k + 5 * (i : Int)))] else (if j < i then laneMk k j else lanesF l j)))) 3 [D.v (.int .i64 (IntKind.i64.wrap (IntKind.i64.wrap (IntKind.i64.wrap (k + 5 * (i : Int) + 1) + 1) + 1)))] else (if j = i then splice (if j = i then splice (if j = i then splice (if j < i then laneMk k j else lanesF l j) 0 [D.v (.int .i64 (k + 5 * (i : Int)))] else (if j < i then laneMk k j else lanesF l j)) 1 [D.v (.int .i64 (IntKind.i64.wrap (k + 5 * (i : Int) + 1)))] else (if j = i then splice (if j < i then laneMk k j else lanesF l j) 0 [D.v (.int .i64 (k + 5 * (i : Int)))] else (if j < i then laneMk k j else lanesF l j))) 2 [D.v (.int .i64 (IntKind.i64.wrap (IntKind.i64.wrap (k + 5 * (i : Int) + 1) + 1)))] else (if j = i then splice (if j = i then splice (if j < i then laneMk k j else lanesF l j) 0 [D.v (.int .i64 (k + 5 * (i : Int)))] else (if j < i then laneMk k j else lanesF l j)) 1 [D.v (.int .i64 (IntKind.i64.wrap (k + 5 * (i : Int) + 1)))] else (if j = i then splice (if j < i then laneMk k j else lanesF l j) 0 [D.v (.int .i64 (k + 5 * (i : Int)))] else (if j < i then laneMk k j else lanesF l j)))))) = if j < i + 1 then laneMk k j else lanesF l j
      by_cases h1 : j = i
      · subst h1
        rw [if_pos (show j < j + 1 by omega)]
        simp only [eq_self, if_true, Nat.lt_irrefl, if_false, w1, w2, w3, w4]
        rfl
      · simp only [h1, if_false]
        by_cases h2 : j < i
        · rw [if_pos h2, if_pos (by omega)]
        · rw [if_neg h2, if_neg (by omega)]
    · simp only [w1, w2, w3, w4]
      rw [wrap_i64 _ (by omega) (by omega)]; omega
    · exact wrap_i64 (i + 1) (by omega) (by omega)
  · simp at h
    have e : i = l.length := by omega
    subst e
    refine chk_intro (by kernel_rfl) ⟨tellV_v rfl rfl, tellHp_row rfl rfl rfl (fun j hj => ?_) tellHp_nil⟩
    show (if j < l.length then laneMk k j else lanesF l j) = laneMk k j
    rw [if_pos hj]
abbrev rowBell (l : List BellM) : Ent := .row 87 2 l.length (bellsF l)
abbrev bellMk (k : Int) (j : Nat) : List D := [.v (.int .i64 (k + 2 * (j : Int))), .v (.int .i64 (k + 2 * (j : Int) + 1))]
set_option maxHeartbeats 1600000 in
theorem c_laws_markBellS (l : List BellM) (k : Int) (hl : l.length ≤ 109951162777) (hk : 0 ≤ k) (hk2 : k ≤ 1099511627776) :
    MutOK Try.prog 88 [.row 0, di k] 1 [(0, rowBell l)] (di (k + 2 * l.length)) 1 [(0, .row 87 2 l.length (bellMk k))] := by
  refine mut_fn_of lv88 Try.func88 rfl rfl (by kernel_rfl) rfl [] ?_
  refine ⟨{ i : Nat // i ≤ l.length }, fun i => ⟨frL [(0, .row 0), (1, di (k + 2 * (i.1 : Int))), (5, di i.1)], hpL [(0, .row 87 2 l.length fun j => if j < i.1 then bellMk k j else bellsF l j)], 1, 1⟩, fun i => l.length - i.1, ⟨0, by omega⟩,
    le_of [] rfl rfl rfl rfl (tellHp_row rfl rfl rfl (fun i hi => rfl) tellHp_nil) (tellFr_row rfl rfl (tellFr_v rfl (congrArg (Value.int .i64) (?_ : k = k + 2 * ((0 : Nat) : Int))) (tellFr_v rfl rfl trivial))), ?_⟩
  · omega
  rintro ⟨i, hi⟩
  refine bsplit_intro (fun h => ?_) (fun h => ?_)
  · have h : i < l.length := by simp at h; exact h
    have w1 : IntKind.i64.wrap (k + 2 * (i : Int) + 1) = k + 2 * (i : Int) + 1 := (wrap_i64 _ (by omega) (by omega)).trans (by omega)
    refine ask_intro ⟨by omega, by show (i : Int) < (l.length : Int); omega⟩ ?_
    refine ask_intro (by show i < l.length; exact h) ?_
    refine ask_intro ⟨by omega, by show (i : Int) < (l.length : Int); omega⟩ ?_
    refine ask_intro (by show i < l.length; exact h) ?_
    refine ⟨⟨i + 1, by omega⟩, le_of [] rfl rfl rfl rfl (tellHp_row rfl rfl rfl (fun j hj => ?_) tellHp_nil) (tellFr_row rfl rfl (tellFr_v rfl (congrArg (Value.int .i64) (?_ : IntKind.i64.wrap (IntKind.i64.wrap (k + 2 * (i : Int) + 1) + 1) = k + 2 * ((i + 1 : Nat) : Int))) (tellFr_v rfl (congrArg (Value.int .i64) (?_ : IntKind.i64.wrap ((i : Int) + 1) = ((i + 1 : Nat) : Int))) trivial))), by show l.length - (i + 1) < l.length - i; omega⟩
    · show (if j = i then splice (if j = i then splice (if j < i then bellMk k j else bellsF l j) 0 [D.v (.int .i64 (k + 2 * (i : Int)))] else (if j < i then bellMk k j else bellsF l j)) 1 [D.v (.int .i64 (IntKind.i64.wrap (k + 2 * (i : Int) + 1)))] else (if j = i then splice (if j < i then bellMk k j else bellsF l j) 0 [D.v (.int .i64 (k + 2 * (i : Int)))] else (if j < i then bellMk k j else bellsF l j))) = if j < i + 1 then bellMk k j else bellsF l j
      by_cases h1 : j = i
      · subst h1
        rw [if_pos (show j < j + 1 by omega)]
        simp only [eq_self, if_true, Nat.lt_irrefl, if_false, w1]
        rfl
      · simp only [h1, if_false]
        by_cases h2 : j < i
        · rw [if_pos h2, if_pos (by omega)]
        · rw [if_neg h2, if_neg (by omega)]
    · simp only [w1]
      rw [wrap_i64 _ (by omega) (by omega)]; omega
    · exact wrap_i64 (i + 1) (by omega) (by omega)
  · simp at h
    have e : i = l.length := by omega
    subst e
    refine chk_intro (by kernel_rfl) ⟨tellV_v rfl rfl, tellHp_row rfl rfl rfl (fun j hj => ?_) tellHp_nil⟩
    show (if j < l.length then bellMk k j else bellsF l j) = bellMk k j
    rw [if_pos hj]
abbrev rowSlot (l : List SlotM) : Ent := .row 45 2 l.length (slotsF l)
abbrev slotMk (k : Int) (j : Nat) : List D := [.v (.int .i64 (k + 2 * (j : Int))), .v (.int .i64 (k + 2 * (j : Int) + 1))]
set_option maxHeartbeats 1600000 in
theorem c_laws_markSlotS (l : List SlotM) (k : Int) (hl : l.length ≤ 109951162777) (hk : 0 ≤ k) (hk2 : k ≤ 1099511627776) :
    MutOK Try.prog 89 [.row 0, di k] 1 [(0, rowSlot l)] (di (k + 2 * l.length)) 1 [(0, .row 45 2 l.length (slotMk k))] := by
  refine mut_fn_of lv89 Try.func89 rfl rfl (by kernel_rfl) rfl [] ?_
  refine ⟨{ i : Nat // i ≤ l.length }, fun i => ⟨frL [(0, .row 0), (1, di (k + 2 * (i.1 : Int))), (5, di i.1)], hpL [(0, .row 45 2 l.length fun j => if j < i.1 then slotMk k j else slotsF l j)], 1, 1⟩, fun i => l.length - i.1, ⟨0, by omega⟩,
    le_of [] rfl rfl rfl rfl (tellHp_row rfl rfl rfl (fun i hi => rfl) tellHp_nil) (tellFr_row rfl rfl (tellFr_v rfl (congrArg (Value.int .i64) (?_ : k = k + 2 * ((0 : Nat) : Int))) (tellFr_v rfl rfl trivial))), ?_⟩
  · omega
  rintro ⟨i, hi⟩
  refine bsplit_intro (fun h => ?_) (fun h => ?_)
  · have h : i < l.length := by simp at h; exact h
    have w1 : IntKind.i64.wrap (k + 2 * (i : Int) + 1) = k + 2 * (i : Int) + 1 := (wrap_i64 _ (by omega) (by omega)).trans (by omega)
    refine ask_intro ⟨by omega, by show (i : Int) < (l.length : Int); omega⟩ ?_
    refine ask_intro (by show i < l.length; exact h) ?_
    refine ask_intro ⟨by omega, by show (i : Int) < (l.length : Int); omega⟩ ?_
    refine ask_intro (by show i < l.length; exact h) ?_
    refine ⟨⟨i + 1, by omega⟩, le_of [] rfl rfl rfl rfl (tellHp_row rfl rfl rfl (fun j hj => ?_) tellHp_nil) (tellFr_row rfl rfl (tellFr_v rfl (congrArg (Value.int .i64) (?_ : IntKind.i64.wrap (IntKind.i64.wrap (k + 2 * (i : Int) + 1) + 1) = k + 2 * ((i + 1 : Nat) : Int))) (tellFr_v rfl (congrArg (Value.int .i64) (?_ : IntKind.i64.wrap ((i : Int) + 1) = ((i + 1 : Nat) : Int))) trivial))), by show l.length - (i + 1) < l.length - i; omega⟩
    · show (if j = i then splice (if j = i then splice (if j < i then slotMk k j else slotsF l j) 0 [D.v (.int .i64 (k + 2 * (i : Int)))] else (if j < i then slotMk k j else slotsF l j)) 1 [D.v (.int .i64 (IntKind.i64.wrap (k + 2 * (i : Int) + 1)))] else (if j = i then splice (if j < i then slotMk k j else slotsF l j) 0 [D.v (.int .i64 (k + 2 * (i : Int)))] else (if j < i then slotMk k j else slotsF l j))) = if j < i + 1 then slotMk k j else slotsF l j
      by_cases h1 : j = i
      · subst h1
        rw [if_pos (show j < j + 1 by omega)]
        simp only [eq_self, if_true, Nat.lt_irrefl, if_false, w1]
        rfl
      · simp only [h1, if_false]
        by_cases h2 : j < i
        · rw [if_pos h2, if_pos (by omega)]
        · rw [if_neg h2, if_neg (by omega)]
    · simp only [w1]
      rw [wrap_i64 _ (by omega) (by omega)]; omega
    · exact wrap_i64 (i + 1) (by omega) (by omega)
  · simp at h
    have e : i = l.length := by omega
    subst e
    refine chk_intro (by kernel_rfl) ⟨tellV_v rfl rfl, tellHp_row rfl rfl rfl (fun j hj => ?_) tellHp_nil⟩
    show (if j < l.length then slotMk k j else slotsF l j) = slotMk k j
    rw [if_pos hj]
/-! ## rows of rows -/
abbrev nestE (l : List (List Int)) : Ent := .nest 56 2 1 l.length (lenF l) (inF l) []
abbrev offK (l : List (List Int)) (k : Int) (i : Nat) : Int := k + (sumN (l.take i) : Nat)
abbrev nestMk (l : List (List Int)) (k : Int) (i j : Nat) : List D := intsF (markL (offK l k i) (l.getD i []).length) j
theorem c_laws_markInt64SS (l : List (List Int)) (k : Int) (hl : l.length ≤ 1048576) (hs : sumN l ≤ 1048576) (hk : 0 ≤ k) (hk2 : k ≤ 1073741824) :
    MutOK Try.prog 86 [.row 0, di k] 1 [(0, nestE l)] (di (k + (sumN l : Nat))) 1 [(0, .nest 56 2 1 l.length (lenF l) (nestMk l k) [])] := by
  refine mut_fn_of lv86 Try.func86 rfl rfl (by kernel_rfl) rfl [] ?_
  refine ⟨{ i : Nat // i ≤ l.length }, fun i => ⟨frL [(0, .row 0), (1, di (offK l k i.1)), (5, di i.1)], hpL [(0, .nest 56 2 1 l.length (lenF l) (fun j => if j < i.1 then nestMk l k j else inF l j) [])], 1, 1⟩, fun i => l.length - i.1, ⟨0, by omega⟩,
    le_of [] rfl rfl rfl rfl (tellHp_nest rfl rfl rfl (fun i hi => ⟨rfl, fun j hj => rfl⟩) tellHp_nil) (tellFr_row rfl rfl (tellFr_v rfl (congrArg (Value.int .i64) (?_ : k = offK l k 0)) (tellFr_v rfl rfl trivial))), ?_⟩
  · simp [offK, sumN]
  rintro ⟨i, hi⟩
  refine ask_intro trivial ?_
  refine bsplit_intro (fun h => ?_) (fun h => ?_)
  · have h : i < l.length := by simp at h; exact h
    have e1 := sumN_take l i h
    have e2 := sumN_le l i
    have e3 := sumN_get l i h
    refine ask_intro ⟨by omega, by show (i : Int) < (l.length : Int); omega⟩ ?_
    refine ask_intro (by show i < l.length; exact h) ?_
    have cm := (c_laws_markInt64S (l.getD i []) (offK l k i) (by omega) (by show 0 ≤ k + (sumN (l.take i) : Nat); omega) (by show k + (sumN (l.take i) : Nat) ≤ _; omega)).rows (hp0' := [(0, .row 2 1 (lenF l i) (if i < i then nestMk l k i else inF l i))]) ⟨rfl, ⟨rfl, rfl, rfl, fun j hj => by rw [if_neg (Nat.lt_irrefl i)]⟩, trivial⟩
    refine .inr ⟨rfl, use_mut ⟨_, _, _, _, _, _, rfl, rfl, cm, rfl, ?_⟩⟩
    refine ⟨⟨i + 1, by omega⟩, le_of [] rfl rfl rfl rfl (tellHp_hole rfl rfl rfl rfl rfl rfl ⟨rfl, fun j hj => ?_⟩ (fun j hj hne => ⟨rfl, fun q hq => ?_⟩) tellHp_nil) (tellFr_row rfl rfl (tellFr_v rfl (congrArg (Value.int .i64) (?_ : offK l k i + ((l.getD i []).length : Int) = offK l k (i + 1))) (tellFr_v rfl (congrArg (Value.int .i64) (?_ : IntKind.i64.wrap ((i : Int) + 1) = ((i + 1 : Nat) : Int))) trivial))), by show l.length - (i + 1) < l.length - i; omega⟩
    · show _ = (if i < i + 1 then nestMk l k i else inF l i) j
      rw [if_pos (by omega)]
    · show (if j < i then nestMk l k j else inF l j) q = (if j < i + 1 then nestMk l k j else inF l j) q
      have hne : j ≠ i := hne
      by_cases h2 : j < i
      · rw [if_pos h2, if_pos (by omega)]
      · rw [if_neg h2, if_neg (by omega)]
    · show k + (sumN (l.take i) : Nat) + ((l.getD i []).length : Int) = k + (sumN (l.take (i + 1)) : Nat)
      omega
    · exact wrap_i64 (i + 1) (by omega) (by omega)
  · simp at h
    have e : i = l.length := by omega
    subst e
    refine chk_intro (by kernel_rfl) ⟨tellV_v rfl ?_, tellHp_nest rfl rfl rfl (fun j hj => ⟨rfl, fun q hq => ?_⟩) tellHp_nil⟩
    · show Value.int .i64 (k + (sumN (l.take l.length) : Nat)) = _
      rw [List.take_length]
    · show (if j < l.length then nestMk l k j else inF l j) q = nestMk l k j q
      rw [if_pos hj]
end Go.Proofs.Ytdpahckfibnagaa.L

/- What the law functions compute that mark a policy: contracts. -/
set_option linter.unusedVariables false
set_option linter.unusedSimpArgs false
set_option maxRecDepth 100000
namespace Go.Proofs.Ytdpahckfibnagaa.L
open Go.RowKit
abbrev polRows (x : PolM) : List (Nat × Ent) := [(0, nestE x.own), (1, rowLane x.lns), (2, rowBell x.bls), (3, rowSlot x.pln)]
abbrev polK1 (x : PolM) (k : Int) : Int := k + (sumN x.own : Nat)
abbrev polK2 (x : PolM) (k : Int) : Int := polK1 x k + 5 * (x.lns.length : Int)
abbrev polK3 (x : PolM) (k : Int) : Int := polK2 x k + 2 * (x.bls.length : Int)
abbrev polK (x : PolM) (k : Int) : Int := polK3 x k + 2 * (x.pln.length : Int)
abbrev polMarks (x : PolM) (k : Int) : List (Nat × Ent) := [(0, .nest 56 2 1 x.own.length (lenF x.own) (nestMk x.own k) []), (1, .row 84 5 x.lns.length (laneMk (polK1 x k))), (2, .row 87 2 x.bls.length (bellMk (polK2 x k))), (3, .row 45 2 x.pln.length (slotMk (polK3 x k)))]
theorem polK_b (x : PolM) (k : Int) (hf : (x.size : Int) ≤ 1048576) (h1 : 0 ≤ k) (h2 : k ≤ 1073741824) : 0 ≤ polK x k ∧ polK x k ≤ k + 5242880 := by
  have e : x.size = x.own.length + sumN x.own + x.lns.length + x.bls.length + x.pln.length := rfl
  show 0 ≤ k + (sumN x.own : Nat) + 5 * (x.lns.length : Int) + 2 * (x.bls.length : Int) + 2 * (x.pln.length : Int) ∧ k + (sumN x.own : Nat) + 5 * (x.lns.length : Int) + 2 * (x.bls.length : Int) + 2 * (x.pln.length : Int) ≤ _
  omega
theorem c_laws_markPolicy (x : PolM) (k : Int) (hf : (x.size : Int) ≤ 1048576) (hk : 0 ≤ k) (hk2 : k ≤ 1073741824) :
    MutOK Try.prog 37 [.agg [.row 0, .row 1, .row 2, .row 3], di k] 4 (polRows x) (di (polK x k)) 4 (polMarks x k) := by
  have e : x.size = x.own.length + sumN x.own + x.lns.length + x.bls.length + x.pln.length := rfl
  have c1 := c_laws_markInt64SS x.own k (by omega) (by omega) hk hk2
  have c2 := c_laws_markLaneS x.lns (polK1 x k) (by omega) (by show 0 ≤ k + (sumN x.own : Nat); omega) (by show k + (sumN x.own : Nat) ≤ _; omega)
  have c3 := c_laws_markBellS x.bls (polK2 x k) (by omega) (by show 0 ≤ k + (sumN x.own : Nat) + 5 * (x.lns.length : Int); omega) (by show k + (sumN x.own : Nat) + 5 * (x.lns.length : Int) ≤ _; omega)
  have c4 := c_laws_markSlotS x.pln (polK3 x k) (by omega) (by show 0 ≤ k + (sumN x.own : Nat) + 5 * (x.lns.length : Int) + 2 * (x.bls.length : Int); omega) (by show k + (sumN x.own : Nat) + 5 * (x.lns.length : Int) + 2 * (x.bls.length : Int) ≤ _; omega)
  refine mut_fn_of lv37 Try.func37 rfl rfl (by kernel_rfl) rfl [] ?_
  refine .inr ⟨rfl, use_mut ⟨_, _, _, _, _, _, rfl, rfl, c1, rfl, ?_⟩⟩
  refine .inr ⟨rfl, use_mut ⟨_, _, _, _, _, _, rfl, rfl, c2, rfl, ?_⟩⟩
  refine .inr ⟨rfl, use_mut ⟨_, _, _, _, _, _, rfl, rfl, c3, rfl, ?_⟩⟩
  refine .inr ⟨rfl, use_mut ⟨_, _, _, _, _, _, rfl, rfl, c4, rfl, ?_⟩⟩
  exact chk_intro (by kernel_rfl) ⟨tellV_v rfl rfl, tellHp_nest rfl rfl rfl (fun j hj => ⟨rfl, fun q hq => rfl⟩) (tellHp_row rfl rfl rfl (fun j hj => rfl) (tellHp_row rfl rfl rfl (fun j hj => rfl) (tellHp_row rfl rfl rfl (fun j hj => rfl) tellHp_nil)))⟩
end Go.Proofs.Ytdpahckfibnagaa.L

/- The words of a lane's page: contracts. -/
set_option linter.unusedVariables false
set_option linter.unusedSimpArgs false
set_option maxRecDepth 100000
namespace Go.Proofs.Ytdpahckfibnagaa.L
open Go.RowKit
def wholeB (m : List Int) : Bool := (memFault m == 0) && ((m.length : Int) == 192)
theorem c_spec_l7Whole (m : List Int) (hm : m.length ≤ 1048576) : FnOK Try.prog 97 [.d (ints m)] (rb (wholeB m)) := by
  have c1 := c_spec_MemoryFault m hm
  generalize hv : wholeB m = v
  unfold wholeB at hv
  generalize memFault m = e at *
  refine fn_of lv97 Try.func97 rfl rfl (by kernel_rfl) rfl ?_
  refine .inl ⟨_, _, rfl, c1, rfl, ?_⟩
  repeat' (first | refine bsplit_true ?_ | refine bsplit_false ?_ | refine bsplit_intro (fun h => ?_) (fun h => ?_))
  all_goals refine ⟨⟨congrArg Value.bool ?_, trivial⟩, rfl⟩
  all_goals simp_all
theorem c_impl_isWhole (m : List Int) (hm : m.length ≤ 1048576) : FnOK Try.prog 100 [.d (ints m)] (rb (wholeB m)) := by
  have c1 := c_impl_MemoryFault m hm
  generalize hv : wholeB m = v
  unfold wholeB at hv
  generalize memFault m = e at *
  refine fn_of lv100 Try.func100 rfl rfl (by kernel_rfl) rfl ?_
  refine .inl ⟨_, _, rfl, c1, rfl, ?_⟩
  repeat' (first | refine bsplit_true ?_ | refine bsplit_false ?_ | refine bsplit_intro (fun h => ?_) (fun h => ?_))
  all_goals refine ⟨⟨congrArg Value.bool ?_, trivial⟩, rfl⟩
  all_goals simp_all
def laneWords (x : PolM) (m : List Int) (i : Int) : Int × List Int := if polFault x = 0 then (bif !inR i 0 ((x.lns.length : Int) - 1) then (4, []) else bif !wholeB m then (1, []) else (0, pageW m (x.lns.getD i.toNat ⟨0, 0, 0, 0, 0⟩).page)) else (polFault x, [])
theorem laneWords_few (x : PolM) (m : List Int) (i : Int) : (laneWords x m i).2.length ≤ 1048576 := by
  have h8 : ∀ p, (pageW m p).length ≤ 8 := fun p => by unfold pageW; rw [List.length_take]; omega
  unfold laneWords
  split
  · cases inR i 0 ((x.lns.length : Int) - 1) with
    | false => simp
    | true =>
      cases wholeB m with
      | false => simp
      | true => show (pageW m _).length ≤ _; have := h8 (x.lns.getD i.toNat ⟨0, 0, 0, 0, 0⟩).page; omega
  · simp
theorem lanesBad_page {own : List (List Int)} : ∀ {l ahead : List LaneM}, lanesBad own ahead l = 0 → ∀ m ∈ l, inR m.page 0 23 = true
  | [], _, _, m, hm => by simp at hm
  | a :: l, ahead, h, m, hm => by
    simp only [lanesBad] at h
    split at h
    · rename_i hb
      rcases List.mem_cons.1 hm with rfl | hm
      · unfold laneBad at hb
        split at hb
        · cases hp : inR m.page 0 23 with
          | true => rfl
          | false => rw [hp] at hb; simp at hb
        · rename_i e; exact absurd hb e
      · exact lanesBad_page h m hm
    · rename_i e; exact absurd h e
theorem pol_lanes {x : PolM} (h : polFault x = 0) : lanesBad x.own [] x.lns = 0 := by
  unfold polFault at h
  split at h
  · cases hq : (decide (x.lns.length > 4) || decide (x.bls.length > 4)) with
    | true => rw [hq] at h; simp at h
    | false =>
      rw [hq, cond_false] at h
      split at h
      · assumption
      · rename_i e; exact absurd h e
  · rename_i e; exact absurd h e
theorem lane_page {x : PolM} (h : polFault x = 0) {i : Int} (hi : inR i 0 ((x.lns.length : Int) - 1) = true) {m : List Int} (hm : wholeB m = true) : 0 ≤ i ∧ i < x.lns.length ∧ 0 ≤ (x.lns.getD i.toNat ⟨0, 0, 0, 0, 0⟩).page ∧ (x.lns.getD i.toNat ⟨0, 0, 0, 0, 0⟩).page ≤ 23 ∧ ((x.lns.getD i.toNat ⟨0, 0, 0, 0, 0⟩).page + 1) * 8 ≤ (m.length : Int) := by
  have h1 := inR_iff.1 hi
  have h2 : i.toNat < x.lns.length := by omega
  have h3 := inR_iff.1 (lanesBad_page (pol_lanes h) (x.lns.getD i.toNat ⟨0, 0, 0, 0, 0⟩) (by rw [getD_at _ h2]; exact List.getElem_mem h2))
  have h4 : (m.length : Int) = 192 := by
    unfold wholeB at hm
    rw [Bool.and_eq_true] at hm
    simpa using hm.2
  omega
theorem c_impl_LaneWords (x : PolM) (hs : x.small) (m : List Int) (hm : m.length ≤ 1048576) (i : Int) : FnOK Try.prog 48 [polLV x, .d (ints m), di i] (.r (irsR (laneWords x m i))) := by
  have hl := hs.lns
  have c1 := c_impl_PolicyFault x hs
  have c2 := c_impl_within i 0 ((x.lns.length : Int) - 1)
  have c3 := c_impl_isWhole m hm
  have hw : IntKind.i64.wrap ((x.lns.length : Int) - 1) = (x.lns.length : Int) - 1 := wrapm (by omega)
  rw [← hw] at c2
  obtain ⟨r, hr⟩ : ∃ r, r = laneWords x m i := ⟨_, rfl⟩
  rw [← hr]
  unfold laneWords at hr
  rw [← hw] at hr
  have lp := @lane_page x
  by_cases he : polFault x = 0
  rotate_left
  · rw [if_neg he] at hr
    subst hr
    refine fn_of lv48 Try.func48 rfl rfl (by kernel_rfl) rfl ?_
    refine .inl ⟨_, _, rfl, c1, rfl, ?_⟩
    refine bsplit_of_true (by simpa using he) ?_
    exact ⟨⟨rfl, ⟨rfl, rfl⟩, trivial⟩, rfl⟩
  rw [if_pos he] at hr
  rw [he] at c1
  have lp := fun i' h' => @lp he i' h' m
  rw [← hw] at lp
  cases hi : inR i 0 (IntKind.i64.wrap ((x.lns.length : Int) - 1)) with
  | false =>
    rw [hi] at hr c2
    have hr : r = (4, []) := hr
    subst hr
    refine fn_of lv48 Try.func48 rfl rfl (by kernel_rfl) rfl ?_
    refine .inl ⟨_, _, rfl, c1, rfl, ?_⟩
    repeat' (first | refine bsplit_true ?_ | refine bsplit_false ?_)
    refine .inl ⟨_, _, rfl, c2, rfl, ?_⟩
    repeat' (first | refine bsplit_true ?_ | refine bsplit_false ?_)
    exact ⟨⟨rfl, ⟨rfl, rfl⟩, trivial⟩, rfl⟩
  | true =>
    rw [hi] at hr c2
    cases hwb : wholeB m with
    | false =>
      rw [hwb] at hr c3
      have hr : r = (1, []) := hr
      subst hr
      refine fn_of lv48 Try.func48 rfl rfl (by kernel_rfl) rfl ?_
      refine .inl ⟨_, _, rfl, c1, rfl, ?_⟩
      repeat' (first | refine bsplit_true ?_ | refine bsplit_false ?_)
      refine .inl ⟨_, _, rfl, c2, rfl, ?_⟩
      repeat' (first | refine bsplit_true ?_ | refine bsplit_false ?_)
      refine .inl ⟨_, _, rfl, c3, rfl, ?_⟩
      repeat' (first | refine bsplit_true ?_ | refine bsplit_false ?_)
      exact ⟨⟨rfl, ⟨rfl, rfl⟩, trivial⟩, rfl⟩
    | true =>
      rw [hwb] at hr c3
      obtain ⟨q1, q2, q3, q4, q5⟩ := lp i hi hwb
      have hr : r = (0, pageW m (x.lns.getD i.toNat ⟨0, 0, 0, 0, 0⟩).page) := hr
      subst hr
      refine fn_of lv48 Try.func48 rfl rfl (by kernel_rfl) rfl ?_
      refine .inl ⟨_, _, rfl, c1, rfl, ?_⟩
      repeat' (first | refine bsplit_true ?_ | refine bsplit_false ?_)
      refine .inl ⟨_, _, rfl, c2, rfl, ?_⟩
      repeat' (first | refine bsplit_true ?_ | refine bsplit_false ?_)
      refine .inl ⟨_, _, rfl, c3, rfl, ?_⟩
      repeat' (first | refine bsplit_true ?_ | refine bsplit_false ?_)
      refine ask_intro ⟨q1, q2, rfl⟩ ?_
      refine .inl ⟨_, _, rfl, c_impl_pageOf m (x.lns.getD i.toNat ⟨0, 0, 0, 0, 0⟩).page q3 (by omega) q5, rfl, ?_⟩
      exact ⟨⟨rfl, ⟨rfl, rfl, rfl, fun j hj => ⟨rfl, rfl⟩⟩, trivial⟩, rfl⟩
theorem c_spec_LaneWords (x : PolM) (hs : x.small) (m : List Int) (hm : m.length ≤ 1048576) (i : Int) : FnOK Try.prog 46 [polLV x, .d (ints m), di i] (.r (irsR (laneWords x m i))) := by
  have hl := hs.lns
  have c1 := c_spec_l6Fault x hs
  have c2 := c_spec_l1In i 0 ((x.lns.length : Int) - 1)
  have c3 := c_spec_l7Whole m hm
  have hw : IntKind.i64.wrap ((x.lns.length : Int) - 1) = (x.lns.length : Int) - 1 := wrapm (by omega)
  rw [← hw] at c2
  obtain ⟨r, hr⟩ : ∃ r, r = laneWords x m i := ⟨_, rfl⟩
  rw [← hr]
  unfold laneWords at hr
  rw [← hw] at hr
  have lp := @lane_page x
  by_cases he : polFault x = 0
  rotate_left
  · rw [if_neg he] at hr
    subst hr
    refine fn_of lv46 Try.func46 rfl rfl (by kernel_rfl) rfl ?_
    refine .inl ⟨_, _, rfl, c1, rfl, ?_⟩
    refine bsplit_of_true (by simpa using he) ?_
    exact ⟨⟨rfl, ⟨rfl, rfl⟩, trivial⟩, rfl⟩
  rw [if_pos he] at hr
  rw [he] at c1
  have lp := fun i' h' => @lp he i' h' m
  rw [← hw] at lp
  cases hi : inR i 0 (IntKind.i64.wrap ((x.lns.length : Int) - 1)) with
  | false =>
    rw [hi] at hr c2
    have hr : r = (4, []) := hr
    subst hr
    refine fn_of lv46 Try.func46 rfl rfl (by kernel_rfl) rfl ?_
    refine .inl ⟨_, _, rfl, c1, rfl, ?_⟩
    repeat' (first | refine bsplit_true ?_ | refine bsplit_false ?_)
    refine .inl ⟨_, _, rfl, c2, rfl, ?_⟩
    repeat' (first | refine bsplit_true ?_ | refine bsplit_false ?_)
    exact ⟨⟨rfl, ⟨rfl, rfl⟩, trivial⟩, rfl⟩
  | true =>
    rw [hi] at hr c2
    cases hwb : wholeB m with
    | false =>
      rw [hwb] at hr c3
      have hr : r = (1, []) := hr
      subst hr
      refine fn_of lv46 Try.func46 rfl rfl (by kernel_rfl) rfl ?_
      refine .inl ⟨_, _, rfl, c1, rfl, ?_⟩
      repeat' (first | refine bsplit_true ?_ | refine bsplit_false ?_)
      refine .inl ⟨_, _, rfl, c2, rfl, ?_⟩
      repeat' (first | refine bsplit_true ?_ | refine bsplit_false ?_)
      refine .inl ⟨_, _, rfl, c3, rfl, ?_⟩
      repeat' (first | refine bsplit_true ?_ | refine bsplit_false ?_)
      exact ⟨⟨rfl, ⟨rfl, rfl⟩, trivial⟩, rfl⟩
    | true =>
      rw [hwb] at hr c3
      obtain ⟨q1, q2, q3, q4, q5⟩ := lp i hi hwb
      have hr : r = (0, pageW m (x.lns.getD i.toNat ⟨0, 0, 0, 0, 0⟩).page) := hr
      subst hr
      have cw := (c_spec_l7Words m [(x.lns.getD i.toNat ⟨0, 0, 0, 0, 0⟩).page] hm (by simp) (fun p hp => by rw [List.mem_singleton.1 hp]; exact ⟨q3, q5⟩)).weak (xs := [.d (ints m), .d (.l 1 fun j => [[dI (x.lns.getD i.toNat ⟨0, 0, 0, 0, 0⟩).page]].getD j [])]) ⟨LVLe.refl _, LVLe.d (DLe.l rfl (fun j hj => litD_eq [(x.lns.getD i.toNat ⟨0, 0, 0, 0, 0⟩).page] j hj)), trivial⟩
      rw [show wordsL m [(x.lns.getD i.toNat ⟨0, 0, 0, 0, 0⟩).page] = pageW m (x.lns.getD i.toNat ⟨0, 0, 0, 0, 0⟩).page from by unfold wordsL; simp] at cw
      refine fn_of lv46 Try.func46 rfl rfl (by kernel_rfl) rfl ?_
      refine .inl ⟨_, _, rfl, c1, rfl, ?_⟩
      repeat' (first | refine bsplit_true ?_ | refine bsplit_false ?_)
      refine .inl ⟨_, _, rfl, c2, rfl, ?_⟩
      repeat' (first | refine bsplit_true ?_ | refine bsplit_false ?_)
      refine .inl ⟨_, _, rfl, c3, rfl, ?_⟩
      repeat' (first | refine bsplit_true ?_ | refine bsplit_false ?_)
      refine ask_intro ⟨q1, q2, rfl⟩ ?_
      refine .inl ⟨_, _, rfl, cw, rfl, ?_⟩
      exact ⟨⟨rfl, ⟨rfl, rfl, rfl, fun j hj => ⟨rfl, rfl⟩⟩, trivial⟩, rfl⟩
end Go.Proofs.Ytdpahckfibnagaa.L

/- The law functions over policies answer true. -/
set_option linter.unusedVariables false
set_option linter.unusedSimpArgs false
set_option maxRecDepth 100000
namespace Go.Proofs.Ytdpahckfibnagaa.L
open Go.RowKit Go.ChangeShapes Go.WideShapes Go.ChangeAt
theorem reads_owns : ReadsT Try.prog 22 1 (List (List Int)) (fun l => [owns l]) (fun l => l.length * 24 ≤ reachBytes ∧ ∀ x ∈ l, okInts x) := ReadsT.slice reads_ints Try.underlying22 (by kernel_rfl) (by decide) [] (by kernel_rfl)
theorem reads_Lane : ReadsT Try.prog 118 5 LaneM laneD (fun p => ok64 p.frm ∧ ok64 p.to ∧ ok64 p.page ∧ ok64 p.af ∧ ok64 p.at_) :=
  (ReadsT.struct (ok := _) Try.underlying118 (by kernel_rfl) (ReadsL.cons reads_int64 (.cons reads_int64 (.cons reads_int64 (.cons reads_int64 (.cons reads_int64 (.nil 5))))))).map (fun m => ⟨m.1, m.2.1, m.2.2.1, m.2.2.2.1, m.2.2.2.2.1⟩) (fun m h => ⟨⟨h.1, h.2.1, h.2.2.1, h.2.2.2.1, h.2.2.2.2.1⟩, rfl⟩)
theorem reads_lanes : ReadsT Try.prog 23 1 (List LaneM) (fun l => [lanes l]) (fun l => l.length * 40 ≤ reachBytes ∧ ∀ p ∈ l, ok64 p.frm ∧ ok64 p.to ∧ ok64 p.page ∧ ok64 p.af ∧ ok64 p.at_) := ReadsT.slice reads_Lane Try.underlying23 (by kernel_rfl) (by decide) ⟨0, 0, 0, 0, 0⟩ (by kernel_rfl)
theorem reads_Bell : ReadsT Try.prog 120 2 BellM bellD (fun p => ok64 p.frm ∧ ok64 p.to) :=
  (ReadsT.struct (ok := _) Try.underlying120 (by kernel_rfl) (ReadsL.cons reads_int64 (.cons reads_int64 (.nil 2)))).map (fun m => ⟨m.1, m.2.1⟩) (fun m h => ⟨⟨h.1, h.2.1⟩, rfl⟩)
theorem reads_bells : ReadsT Try.prog 24 1 (List BellM) (fun l => [bells l]) (fun l => l.length * 16 ≤ reachBytes ∧ ∀ p ∈ l, ok64 p.frm ∧ ok64 p.to) := ReadsT.slice reads_Bell Try.underlying24 (by kernel_rfl) (by decide) ⟨0, 0⟩ (by kernel_rfl)
theorem reads_Slot : ReadsT Try.prog 122 2 SlotM slotD (fun p => ok64 p.guest ∧ ok64 p.steps) :=
  (ReadsT.struct (ok := _) Try.underlying122 (by kernel_rfl) (ReadsL.cons reads_int64 (.cons reads_int64 (.nil 2)))).map (fun m => ⟨m.1, m.2.1⟩) (fun m h => ⟨⟨h.1, h.2.1⟩, rfl⟩)
theorem reads_slots : ReadsT Try.prog 25 1 (List SlotM) (fun l => [slots l]) (fun l => l.length * 16 ≤ reachBytes ∧ ∀ p ∈ l, ok64 p.guest ∧ ok64 p.steps) := ReadsT.slice reads_Slot Try.underlying25 (by kernel_rfl) (by decide) ⟨0, 0⟩ (by kernel_rfl)
structure PolM.ok (x : PolM) : Prop where
  own : x.own.length * 24 ≤ reachBytes ∧ ∀ r ∈ x.own, okInts r
  lns : x.lns.length * 40 ≤ reachBytes ∧ ∀ p ∈ x.lns, ok64 p.frm ∧ ok64 p.to ∧ ok64 p.page ∧ ok64 p.af ∧ ok64 p.at_
  bls : x.bls.length * 16 ≤ reachBytes ∧ ∀ p ∈ x.bls, ok64 p.frm ∧ ok64 p.to
  pln : x.pln.length * 16 ≤ reachBytes ∧ ∀ p ∈ x.pln, ok64 p.guest ∧ ok64 p.steps
theorem PolM.ok.small {x : PolM} (h : x.ok) : x.small := by
  have e := reach_eq
  have a := h.own.1
  have b := h.lns.1
  have c := h.bls.1
  have d := h.pln.1
  refine ⟨by omega, fun i hi => ?_, by omega, by omega, by omega⟩
  have := (h.own.2 (x.own.getD i []) (by rw [getD_at _ hi]; exact List.getElem_mem hi)).1
  omega
theorem reads_Policy : ReadsT Try.prog 27 4 PolM polD PolM.ok :=
  (ReadsT.struct (ok := _) Try.underlying27 (by kernel_rfl) (ReadsL.cons reads_owns (.cons reads_lanes (.cons reads_bells (.cons reads_slots (.nil 4)))))).map (fun m => ⟨m.1, m.2.1, m.2.2.1, m.2.2.2.1⟩) (fun m h => ⟨⟨h.1, h.2.1, h.2.2.1, h.2.2.2.1⟩, rfl⟩)
theorem szP_of {x : PolM} {q : Int} (h : decide (szP x q < 0) = false) : (x.size : Int) ≤ q := by
  have h := of_decide_eq_false h
  unfold szP at h
  split at h <;> omega
set_option maxHeartbeats 1600000 in
theorem c_laws_FnExactPolicyFault (x0 : PolM) (ho_x0 : x0.ok) : FnOK Try.prog 3 [polLV x0] (rb true) := by
  have hs_x0 := ho_x0.small
  refine fn_of lv3 Try.func3 rfl rfl (by kernel_rfl) rfl ?_
  refine .inl ⟨_, _, rfl, c_laws_szPolicy x0 hs_x0 (1048576) (by omega) (by omega), rfl, ?_⟩
  refine bsplit_intro (fun h => ?_) (fun h => ?_)
  · exact ⟨⟨rfl, trivial⟩, rfl⟩
  have hf_x0 : (x0.size : Int) ≤ 1048576 := szP_of h
  have cs := c_spec_PolicyFault x0 hs_x0
  have ci := c_impl_PolicyFault x0 hs_x0
  have hf := trivial 
  obtain ⟨p, hp⟩ : ∃ p, p = polFault x0 := ⟨_, rfl⟩
  rw [← hp] at cs ci
  refine .inl ⟨_, _, rfl, c_laws_toPolicy x0 hs_x0, rfl, ?_⟩
  repeat' (first | refine bsplit_true ?_ | refine bsplit_false ?_ | refine chk_intro (by kernel_rfl) ?_ | refine bsplit_of_false (by simp; done) ?_)
  refine .inl ⟨_, _, rfl, cs, rfl, ?_⟩
  repeat' (first | refine bsplit_true ?_ | refine bsplit_false ?_ | refine chk_intro (by kernel_rfl) ?_ | refine bsplit_of_false (by simp; done) ?_)
  refine .inl ⟨_, _, rfl, c_laws_toPolicy x0 hs_x0, rfl, ?_⟩
  repeat' (first | refine bsplit_true ?_ | refine bsplit_false ?_ | refine chk_intro (by kernel_rfl) ?_ | refine bsplit_of_false (by simp; done) ?_)
  refine .inl ⟨_, _, rfl, ci, rfl, ?_⟩
  repeat' (first | refine bsplit_true ?_ | refine bsplit_false ?_ | refine chk_intro (by kernel_rfl) ?_ | refine bsplit_of_false (by simp; done) ?_)
  refine .inl ⟨_, _, rfl, c_laws_toPolicy x0 hs_x0, rfl, ?_⟩
  repeat' (first | refine bsplit_true ?_ | refine bsplit_false ?_ | refine chk_intro (by kernel_rfl) ?_ | refine bsplit_of_false (by simp; done) ?_)
  refine .inl ⟨_, _, rfl, c_laws_eqPolicy x0 x0 hs_x0, rfl, ?_⟩
  repeat' (first | refine bsplit_true ?_ | refine bsplit_false ?_ | refine chk_intro (by kernel_rfl) ?_ | refine bsplit_of_false (by simp; done) ?_)
  exact ⟨⟨rfl, trivial⟩, rfl⟩

end Go.Proofs.Ytdpahckfibnagaa.L

/- The law function FnExactLinksTo answers true. -/
set_option linter.unusedVariables false
set_option linter.unusedSimpArgs false
set_option maxRecDepth 100000
namespace Go.Proofs.Ytdpahckfibnagaa.L
open Go.RowKit
set_option maxHeartbeats 1600000 in
theorem c_laws_FnExactLinksTo (x0 : PolM) (x1 : Int) (ho_x0 : x0.ok) (ho_x1 : ok64 x1) : FnOK Try.prog 11 [polLV x0, di x1] (rb true) := by
  have hs_x0 := ho_x0.small
  refine fn_of lv11 Try.func11 rfl rfl (by kernel_rfl) rfl ?_
  refine .inl ⟨_, _, rfl, c_laws_szPolicy x0 hs_x0 (1048576) (by omega) (by omega), rfl, ?_⟩
  refine bsplit_intro (fun h => ?_) (fun h => ?_)
  · exact ⟨⟨rfl, trivial⟩, rfl⟩
  have hf_x0 : (x0.size : Int) ≤ 1048576 := szP_of h
  have cs := c_spec_LinksTo x0 hs_x0 x1
  have ci := c_impl_LinksTo x0 hs_x0 x1
  have hf := linksTo_few x0 x1
  obtain ⟨p, hp⟩ : ∃ p, p = linksTo x0 x1 := ⟨_, rfl⟩
  rw [← hp] at cs ci hf
  have hkp : 0 ≤ 1 + (p.2.length : Int) := by omega
  have hk : ¬ 1 + (p.2.length : Int) < 0 := by omega
  have hb0 := polK_b x0 (1) hf_x0 (by omega) (by omega)
  refine .inl ⟨_, _, rfl, c_laws_toPolicy x0 hs_x0, rfl, ?_⟩
  repeat' (first | refine bsplit_true ?_ | refine bsplit_false ?_ | refine chk_intro (by kernel_rfl) ?_ | refine bsplit_of_false (by simp; done) ?_)
  refine .inl ⟨_, _, rfl, cs, rfl, ?_⟩
  repeat' (first | refine bsplit_true ?_ | refine bsplit_false ?_ | refine chk_intro (by kernel_rfl) ?_ | refine bsplit_of_false (by simp; done) ?_)
  refine .inl ⟨_, _, rfl, c_laws_toPolicy x0 hs_x0, rfl, ?_⟩
  repeat' (first | refine bsplit_true ?_ | refine bsplit_false ?_ | refine chk_intro (by kernel_rfl) ?_ | refine bsplit_of_false (by simp; done) ?_)
  refine .inl ⟨_, _, rfl, ci, rfl, ?_⟩
  repeat' (first | refine bsplit_true ?_ | refine bsplit_false ?_ | refine chk_intro (by kernel_rfl) ?_ | refine bsplit_of_false (by simp; done) ?_)
  refine .inl ⟨_, _, rfl, c_laws_eqIntsResult p p (by omega), rfl, ?_⟩
  repeat' (first | refine bsplit_true ?_ | refine bsplit_false ?_ | refine chk_intro (by kernel_rfl) ?_ | refine bsplit_of_false (by simp; done) ?_)
  refine .inl ⟨_, _, rfl, c_laws_toPolicy x0 hs_x0, rfl, ?_⟩
  repeat' (first | refine bsplit_true ?_ | refine bsplit_false ?_ | refine chk_intro (by kernel_rfl) ?_ | refine bsplit_of_false (by simp; done) ?_)
  refine .inl ⟨_, _, rfl, c_laws_eqPolicy x0 x0 hs_x0, rfl, ?_⟩
  repeat' (first | refine bsplit_true ?_ | refine bsplit_false ?_ | refine chk_intro (by kernel_rfl) ?_ | refine bsplit_of_false (by simp; done) ?_)
  refine .inr ⟨rfl, use_mut ⟨_, _, _, _, _, _, rfl, rfl, c_laws_markPolicy x0 (1) hf_x0 (by omega) (by omega), rfl, ?_⟩⟩
  repeat' (first | refine bsplit_true ?_ | refine bsplit_false ?_ | refine chk_intro (by kernel_rfl) ?_)
  try refine bsplit_of_false (decide_eq_false (show ¬ (polK x0 (1)) < 0 by have := hb0.1; omega)) ?_
  repeat' (first | refine bsplit_true ?_ | refine bsplit_false ?_ | refine chk_intro (by kernel_rfl) ?_ | refine bsplit_of_false (by simp; done) ?_)
  refine .inl ⟨_, _, rfl, c_laws_eqIntsResult p p (by omega), rfl, ?_⟩
  repeat' (first | refine bsplit_true ?_ | refine bsplit_false ?_ | refine chk_intro (by kernel_rfl) ?_ | refine bsplit_of_false (by simp; done) ?_)
  refine .inr ⟨rfl, use_mut ⟨_, _, _, _, _, _, rfl, rfl, c_laws_markIntsResult p 1 (by omega) (by omega) (by omega), rfl, ?_⟩⟩
  repeat' (first | refine bsplit_true ?_ | refine bsplit_false ?_ | refine chk_intro (by kernel_rfl) ?_)
  refine .inl ⟨_, _, rfl, c_laws_heldIntsResult p 1 (by omega) (by omega) (by omega), rfl, ?_⟩
  repeat' (first | refine bsplit_true ?_ | refine bsplit_false ?_ | refine chk_intro (by kernel_rfl) ?_)
  try refine bsplit_of_false (decide_eq_false hk) ?_
  repeat' (first | refine bsplit_true ?_ | refine bsplit_false ?_ | refine chk_intro (by kernel_rfl) ?_ | refine bsplit_of_false (by simp; done) ?_)
  refine .inl ⟨_, _, rfl, c_laws_toPolicy x0 hs_x0, rfl, ?_⟩
  repeat' (first | refine bsplit_true ?_ | refine bsplit_false ?_ | refine chk_intro (by kernel_rfl) ?_ | refine bsplit_of_false (by simp; done) ?_)
  refine .inl ⟨_, _, rfl, ci, rfl, ?_⟩
  repeat' (first | refine bsplit_true ?_ | refine bsplit_false ?_ | refine chk_intro (by kernel_rfl) ?_ | refine bsplit_of_false (by simp; done) ?_)
  refine .inl ⟨_, _, rfl, c_laws_eqIntsResult p p (by omega), rfl, ?_⟩
  repeat' (first | refine bsplit_true ?_ | refine bsplit_false ?_ | refine chk_intro (by kernel_rfl) ?_ | refine bsplit_of_false (by simp; done) ?_)
  refine .inl ⟨_, _, rfl, c_laws_heldIntsResult p 1 (by omega) (by omega) (by omega), rfl, ?_⟩
  repeat' (first | refine bsplit_true ?_ | refine bsplit_false ?_ | refine chk_intro (by kernel_rfl) ?_)
  try refine bsplit_of_false (decide_eq_false hk) ?_
  repeat' (first | refine bsplit_true ?_ | refine bsplit_false ?_ | refine chk_intro (by kernel_rfl) ?_ | refine bsplit_of_false (by simp; done) ?_)
  exact ⟨⟨rfl, trivial⟩, rfl⟩

end Go.Proofs.Ytdpahckfibnagaa.L

/- The law FnExactLinksTo answers true at every input that its statement lets in. -/
set_option linter.unusedVariables false
set_option maxRecDepth 100000
namespace Go.Proofs.Ytdpahckfibnagaa.L.FnExactLinksTo
open Go.RowKit Go.ChangeShapes Go.WideShapes Go.ChangeAt
theorem lifted (os : Os) (started : os.Started) (H : Type) (enc : TypeId × Value → H) :
    ReturnsInHanded {} Try.checked os 11 .any (Rows.fnExactLinksToSpec.pre6 enc Try.prog Try.f11 Rows.fnExactLinksToRow.domain false) (Rows.fnExactLinksToSpec.post enc Try.prog Try.f11 false true false false) := by
  refine returnsInHanded_of_change_sized (C := Try.checked) own started (by kernel_rfl) Try.func11
    (ChangeSpec.witness6 (enc := enc) (C := Try.checked) false ⟨#[], #[.agg #[.slice none 0 0, .slice none 0 0, .slice none 0 0, .slice none 0 0], .int .i64 0], []⟩ 8 (by kernel_rfl) (by kernel_rfl) (by kernel_rfl) (by kernel_rfl)) ?_
  intro W base args ds gs before hval0 hW hcnd hsz0 _
  have hsz : (DataW.weightsEach Try.prog (Try.f11.params.toList ++ Rows.fnExactLinksToSpec.plain.varTypes Try.prog) (ds ++ gs)).all (· ≤ reachBytes) = true := hsz0
  have hval : ∀ (j : Nat) t v, Try.f11.params[j]? = some t → args[j]? = some v → Value.okWide Try.prog W .any base t v := hval0
  have hW' := hW
  obtain ⟨p, q, hA0, hV, rfl, hfz, hnd⟩ := hW
  have hA : DataW.TrodAll enc Try.prog W 0 (fun _ => true) true Try.f11.params.toList args.toList ds p := hA0
  rw [Try.params11] at hA hval hsz
  obtain ⟨v0, vs0, d0, ds0, p0, q0, hargs, rfl, rfl, h0, r0⟩ := trodAll_cons hA
  obtain ⟨v1, vs1, d1, ds1, p1, q1, rfl, rfl, rfl, h1, r1⟩ := trodAll_cons r0
  obtain ⟨rfl, rfl, rfl⟩ := trodAll_nil r1
  obtain rfl : args = #[v0, v1] := by cases args; simp_all
  obtain ⟨rfl, rfl⟩ := trodVars_none hV
  have hsm : ∀ k ∈ DataW.weightsEach Try.prog ([27, 2] ++ Rows.fnExactLinksToSpec.plain.varTypes Try.prog) ([d0, d1] ++ []), k ≤ reachBytes := fun k hk => by simpa using List.all_eq_true.1 hsz k hk
  have k0 := h0
  have lt0 : ∀ x ∈ p0, x.block < W.heap.size := by obtain ⟨m, hm⟩ := k0; exact DataW.trod_lt m _ _ _ hm
  obtain ⟨m0, hm0, hvr0⟩ := reads_Policy.agg Try.underlying27 (hval 0 27 v0 rfl rfl) h0 (fun k hk => hsm k (DataW.weights_mem_each (j := 0) rfl rfl k hk))
  have k1 := h1
  have lt1 : ∀ x ∈ p1, x.block < W.heap.size := by obtain ⟨m, hm⟩ := k1; exact DataW.trod_lt m _ _ _ hm
  have c1 : v1.cells = #[v1] := by have z := okWide_int Try.underlying2 (hval 1 2 v1 rfl rfl); (first | (obtain ⟨_, rfl⟩ := z; rfl) | (obtain ⟨_, _, _, rfl⟩ := z; rfl))
  obtain ⟨m1, hm1, hvr1⟩ := reads_int64.one c1 h1 (fun k hk => hsm k (DataW.weights_mem_each (j := 1) rfl rfl k hk))
  refine ((c_laws_FnExactLinksTo m0 m1 hm0 hm1).calls W (Mem W) [v0, v1] (fun b hb => hb) rfl (fun j hj => ?_)).mono fun e W' ⟨v, he, bel, hrr⟩ => ?_
  · match j, hj with
    | 0, _ => exact hvr0
    | 1, _ => exact hvr1
    | j + 2, hj => exact absurd hj (by simp)
  · obtain ⟨us, J, hl, rfl, hJ, hok, _, _⟩ := hrr.ex
    have h1 := hok 0 _ rfl
    have h2 : RV.val us (rb true) = .bool true := h1
    rw [h2] at he
    subst he
    exact ⟨_, rfl, _, _, _, [], _, [], hW', trodAll_mk1 (shut_bool Try.underlying4 _), (trodAll_cons_mk (Below.trod laidOut (by kernel_rfl) (of_decide_eq_true (by kernel_rfl)) k0 bel lt0) (trodAll_cons_mk (Below.trod laidOut (by kernel_rfl) (of_decide_eq_true (by kernel_rfl)) k1 bel lt1) trodAll_mk0)), rfl, bel.frame _, fun h => by cases h⟩
theorem over : Rows.fnExactLinksToRow.holds Try.pinned (OpenSpec.ofChange Rows.fnExactLinksToSpec) :=
  OpenClaim.holds_of_wide 11 Try.f11 rfl rfl rfl rfl rfl rfl rfl ⟨rfl, rfl, rfl, rfl, rfl⟩ rfl rfl rfl rfl rfl (by kernel_rfl) Try.func11 (by kernel_rfl)
    (of_decide_eq_true (by kernel_rfl)) (by unfold Func.isWrapper; first | (rw [if_pos (by decide +kernel)]; kernel_rfl) | (rw [if_neg (by decide +kernel)]; exact ⟨rfl, rfl⟩))
    (fun os started H enc _ => lifted os started H enc)
end Go.Proofs.Ytdpahckfibnagaa.L.FnExactLinksTo
namespace Go.Proofs.Ytdpahckfibnagaa
theorem fnExactLinksTo_holds : Rows.FnExactLinksToSaid := L.FnExactLinksTo.over
#print axioms fnExactLinksTo_holds
end Go.Proofs.Ytdpahckfibnagaa
