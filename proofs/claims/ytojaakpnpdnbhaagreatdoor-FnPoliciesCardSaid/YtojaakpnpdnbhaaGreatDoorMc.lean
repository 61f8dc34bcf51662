/- A slice that is nil is told as an own row of no elements. -/
import Derived.Test.YtojaakpnpdnbhaaGreatDoorLr
set_option linter.unusedVariables false
set_option linter.unusedSimpArgs false
namespace Go.Proofs.YtojaakpnpdnbhaaGreatDoor.L
open Go.RowKit

theorem Le.trans {s t u : LS} (h : Le s t) (k : Le t u) : Le s u := by
  obtain ⟨h1, h2, h3⟩ := h
  obtain ⟨k1, k2, k3⟩ := k
  refine ⟨k1.trans h1, by omega, fun O nt ρ I a w hR hF => ?_⟩
  obtain ⟨ρ1, I1, a1, a2, a3, a4, a5⟩ := h3 O nt ρ I a w hR hF
  obtain ⟨ρ2, I2, b1, b2, b3, b4, b5⟩ := k3 O nt ρ1 I1 a w a4 a5
  exact ⟨ρ2, I2, fun j hj => (b1 j (by omega)).trans (a1 j hj), fun b hb => b2 b (a2 b hb), fun b hb => (b3 b hb).elim (a3 b) .inr, b4, b5⟩

/-- things of no elements -/
def isNone : Ent → Bool
  | .row _ sz n _ => Nat.ble 1 sz && Nat.beq n 0
  | .nest _ _ sz n _ _ [] => Nat.ble 1 sz && Nat.beq n 0
  | _ => false

section
variable {O : Nat → Prop} {nt : Nat} {ρ : Nat → Option Value} {I : Nat → Prop} {s : LS} {a : Act} {w : World}
theorem none_ent {e : Ent} (he : isNone e = true) {j : Nat} (hj : ρ j = some (.slice none 0 0)) : ER ρ w I j e ∧ ∀ g, ¬ foot w (.slice none 0 0) e g := by
  cases e with
  | box => simp [isNone] at he
  | map => simp [isNone] at he
  | row e sz n f =>
    simp only [isNone, Bool.and_eq_true] at he
    have h0 : 1 ≤ sz := by simpa using he.1
    obtain rfl : n = 0 := by simpa using he.2
    exact ⟨⟨h0, _, [], hj, ⟨by simp, .inl ⟨rfl, rfl⟩⟩, by simp, fun i hi => absurd hi (by omega), fun i j hi => absurd hi (by omega)⟩, fun g hg => by simpa [blk] using foot_flat rfl hg⟩
  | nest eo ei sz n L f ov =>
    cases ov with
    | cons => simp [isNone] at he
    | nil =>
      simp only [isNone, Bool.and_eq_true] at he
      have h0 : 1 ≤ sz := by simpa using he.1
      obtain rfl : n = 0 := by simpa using he.2
      refine ⟨⟨h0, _, [], hj, ⟨by simp, .inl ⟨rfl, rfl⟩⟩, by simp, fun i hi => absurd hi (by omega), fun i j _ _ _ _ _ hi => absurd hi (by omega), fun i _ _ _ hi => absurd hi (by omega)⟩, fun g hg => ?_⟩
      rcases hg with hg | ⟨i, _, _, _, hi, _⟩
      · simp [blk] at hg
      · omega
/-- one more thing, of no elements -/
theorem Rel.addNone (h : Rel O nt ρ I s a w) (hF : Fresh ρ s.nx) {e : Ent} (he : isNone e = true) : Rel O nt (upd ρ s.nx (some (.slice none 0 0))) I { s with hp := upd s.hp s.nx (some e) } a w :=
  h.addEnt (hF _ (Nat.le_refl _)) (none_ent he (upd_same _ _ _)).1 (fun g hg => absurd hg ((none_ent (ρ := upd ρ s.nx (some (.slice none 0 0))) (I := I) he (upd_same _ _ _)).2 g))

/-- a nil slice in a cell of a box is told as an own row -/
theorem nilBox {k i : Nat} {t : TypeId} {cs : List LV} (hk : s.hp k = some (.box t cs)) (hi : cs[i]? = some (.d (.v (.slice none 0 0)))) (e : Ent) (he : isNone e = true) (hlo : Nat.ble s.lo s.nx = true) :
    Le s ⟨s.fr, upd (upd s.hp k (some (.box t (cs.set i (.row s.nx))))) s.nx (some e), s.nx + 1, s.lo⟩ := by
  have hlo : s.lo ≤ s.nx := by simpa using hlo
  refine ⟨rfl, Nat.le_succ_of_le hlo, fun O nt ρ I a w hR hF => ?_⟩
  have h1 := hR.addNone hF he
  have hkn : k ≠ s.nx := by
    rintro rfl
    obtain ⟨v, hv⟩ := (hR.hp _ _ hk).named
    rw [hF _ (Nat.le_refl _)] at hv
    simp at hv
  refine ⟨upd ρ s.nx (some (.slice none 0 0)), I, fun j hj => upd_ne _ _ (by omega), fun _ h => h, fun _ h => .inl h, ?_, fun j hj => ?_⟩
  · have sub : ∀ j e', upd (upd s.hp k (some (.box t (cs.set i (.row s.nx))))) s.nx (some e) j = some e' → ∃ e2, upd s.hp s.nx (some e) j = some e2 ∧ ∀ v g, foot w v e' g → foot w v e2 g := by
      intro j e' he'
      by_cases hj : j = s.nx
      · subst hj
        simp only [upd_same] at he' ⊢
        exact ⟨_, he', fun _ _ h => h⟩
      · simp only [upd_ne _ _ hj] at he' ⊢
        by_cases hjk : j = k
        · subst hjk
          simp only [upd_same, Option.some.injEq] at he'
          subst he'
          exact ⟨_, hk, fun v g hg => .inl (foot_flat rfl hg)⟩
        · rw [upd_ne _ _ hjk] at he'
          exact ⟨_, he', fun _ _ h => h⟩
    refine ⟨h1.fr, fun j e' he' => ?_, fun j e' v g he' hv hg => ?_, fun j j' e1 e2 v v' g he1 he2 hv hv' hg hg' => ?_, h1.lt, h1.df, h1.sz, h1.gl⟩
    · by_cases hj : j = s.nx
      · subst hj
        simp only [upd_same, Option.some.injEq] at he'
        subst he'
        exact (none_ent he (upd_same _ _ _)).1
      · simp only [upd_ne _ _ hj] at he'
        by_cases hjk : j = k
        · subst hjk
          simp only [upd_same, Option.some.injEq] at he'
          subst he'
          obtain ⟨g, us, q1, q2, q3, q4⟩ := h1.hp j _ (show upd s.hp s.nx (some e) j = some (.box t cs) by rw [upd_ne _ _ hj]; exact hk)
          refine ⟨g, us, q1, q2, by simpa using q3, fun q hq => ?_⟩
          have hq' : q < cs.length := by simpa using hq
          have := q4 q hq'
          by_cases hqi : q = i
          · subst hqi
            have e0 : (cs.set q (.row s.nx)).getD q .bad = .row s.nx := by simp [List.getD, hq']
            have e1 : cs.getD q .bad = .d (.v (.slice none 0 0)) := by simp [List.getD, hi]
            rw [e1] at this
            have hu := VR.atom this
            rw [e0, hu]
            exact .row (upd_same _ _ _) ⟨_, _, _, rfl⟩
          · have e0 : (cs.set i (.row s.nx)).getD q .bad = cs.getD q .bad := by simp [List.getD, List.getElem?_set_ne (Ne.symm hqi)]
            rw [e0]
            exact this
        · exact h1.hp j e' (show upd s.hp s.nx (some e) j = some e' by rw [upd_ne _ _ hj]; rw [upd_ne _ _ hjk] at he'; exact he')
    · obtain ⟨e2, q1, q2⟩ := sub j e' he'
      exact h1.ow j e2 v g q1 hv (q2 _ _ hg)
    · obtain ⟨e3, q1, q2⟩ := sub j e1 he1
      obtain ⟨e4, r1, r2⟩ := sub j' e2 he2
      exact h1.ds j j' e3 e4 v v' g q1 r1 hv hv' (q2 _ _ hg) (r2 _ _ hg')
  · have hj : s.nx + 1 ≤ j := hj
    rw [upd_ne _ _ (by omega)]
    exact hF j (by omega)
/-- a nil slice in a place of the frame is told as an own row -/
theorem nilFr {t : Nat} (ht : s.fr t = .d (.v (.slice none 0 0))) (e : Ent) (he : isNone e = true) (hlo : Nat.ble s.lo s.nx = true) : Le s ⟨upd s.fr t (.row s.nx), upd s.hp s.nx (some e), s.nx + 1, s.lo⟩ := by
  have hlo : s.lo ≤ s.nx := by simpa using hlo
  refine ⟨rfl, Nat.le_succ_of_le hlo, fun O nt ρ I a w hR hF => ?_⟩
  have h1 := hR.addNone hF he
  refine ⟨upd ρ s.nx (some (.slice none 0 0)), I, fun j hj => upd_ne _ _ (by omega), fun _ h => h, fun _ h => .inl h, ⟨fun i => ?_, h1.hp, h1.ow, h1.ds, h1.lt, h1.df, h1.sz, h1.gl⟩, fun j hj => ?_⟩
  · show VR _ w I (upd s.fr t (.row s.nx) i) _
    rw [upd_eq]
    split
    · rename_i hi
      subst hi
      have := hR.fr i
      rw [ht] at this
      rw [VR.atom this]
      exact .row (upd_same _ _ _) ⟨_, _, _, rfl⟩
    · exact h1.fr i
  · have hj : s.nx + 1 ≤ j := hj
    rw [upd_ne _ _ (by omega)]
    exact hF j (by omega)
end
end Go.Proofs.YtojaakpnpdnbhaaGreatDoor.L
