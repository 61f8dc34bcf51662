/- Statements in the symbolic logic are true of the machine's. -/
import Derived.Test.YtojaakpnpdnbhaaGreatDoorLq
import Derived.Deep.LoopGhost
set_option linter.unusedVariables false
set_option linter.unusedSimpArgs false
namespace Go.Proofs.YtojaakpnpdnbhaaGreatDoor.L
open Go.RowKit

/-- every place that is written is one of the activation's -/
def codeOk (nt : Nat) : Code → Bool
  | .region _ ops draw => (!draw || okD ops (masks ops)) && Nat.ble ops.size 128 && ops.toList.all fun o => match o.dst with
    | some d => Nat.blt d nt
    | none => true
  | .seq a b => codeOk nt a && codeOk nt b
  | .cond _ a b => codeOk nt a && codeOk nt b
  | .block _ c => codeOk nt c
  | .loop c => codeOk nt c
  | _ => true

section
variable {P : Program} {T : TT} {A : List (Nat × List Nat)} {O : Nat → Prop} {nt : Nat}

theorem lwpN_sound (hm : P.follows .mixedOrders = true) (hT : TOk P T) : ∀ (c : Code) (s : LS) (N : LS → Prop) (X : Exit → LS → Prop), codeOk nt c = true → lwpN P T A c s N X → ∀ (ρ : Nat → Option Value) (I : Nat → Prop) (a : Act) (w : World), Rel O nt ρ I s a w → Fresh ρ s.nx → s.lo ≤ s.nx → (∀ g, w.heap.size ≤ g → O g) →
    ∀ Q' : Exit → Act → World → Prop, (∀ e s' ρ' I' a' w', comb N X e s' → Rel O nt ρ' I' s' a' w' → Fresh ρ' s'.nx → s'.lo = s.lo → s.lo ≤ s'.nx → Tr O s.lo ρ I w ρ' I' w' → Q' e a' w') → c.wp P Q' a w
  | .skip, s, N, X, _, h, ρ, I, a, w, hR, hF, hl, hO, Q', hQ => wp_skip (hQ _ s ρ I a w (by exact h) hR hF rfl hl (Tr.refl _ _ _ _ _))
  | .exit id, s, N, X, _, h, ρ, I, a, w, hR, hF, hl, hO, Q', hQ => wp_exit (hQ _ s ρ I a w (by exact h) hR hF rfl hl (Tr.refl _ _ _ _ _))
  | .ret, s, N, X, _, h, ρ, I, a, w, hR, hF, hl, hO, Q', hQ => wp_ret (hQ _ s ρ I a w (by exact h) hR hF rfl hl (Tr.refl _ _ _ _ _))
  | .region id ops draw, s, N, X, hc, h, ρ, I, a, w, hR, hF, hl, hO, Q', hQ => by
    simp only [codeOk, Bool.and_eq_true] at hc
    obtain ⟨⟨hdr, hsz⟩, hall⟩ := hc
    have hsz : ops.size ≤ 128 := by simpa using hsz
    obtain ⟨fr, hp, nx, lo⟩ := s
    have hdst : ∀ o ∈ ops.toList, ∀ d, o.dst = some d → d < nt := by
      intro o ho d hd
      have := List.all_eq_true.1 hall o ho
      rw [hd] at this
      simp [Nat.blt] at this
      exact this
    cases draw with
    | true =>
      refine wp_region_any hm ?_
      have hR' : Rel O nt ρ I ⟨fr, hp, nx + 4096, lo⟩ a { w with drawn := w.drawn + 1 } := (show Rel O nt ρ I ⟨fr, hp, nx + 4096, lo⟩ a w from ⟨hR.fr, hR.hp, hR.ow, hR.ds, hR.lt, hR.df, hR.sz, hR.gl⟩).drew
      exact region_any (nx0 := nx) (w0 := { w with drawn := w.drawn + 1 }) hT (by simpa using hdr) hdst h (by show nx + 32 * ops.size ≤ nx + 4096; omega) hl hO
        (fun s' ρ' I' a' w' hK hR1 hF1 hnx hlo htr => by
          obtain ⟨t, hK, hle⟩ := norm_spec hK hnx hlo
          exact hQ _ t ρ' I' a' w' hK (hR1.of_less hle) (by rw [hle.nx]; exact hF1) (by rw [hle.lo]; exact hlo) (by rw [hle.nx]; simp only at hnx hl ⊢; omega) ((show Tr O lo ρ I w ρ I { w with drawn := w.drawn + 1 } from ⟨fun _ _ => rfl, fun _ h => h, fun _ h => .inl h, fun _ _ => rfl, Step.drew _ _⟩).trans htr)) hR' hF
    | false =>
      refine wp_region ?_
      have hR' : Rel O nt ρ I ⟨fr, hp, nx + 4096, lo⟩ a w := ⟨hR.fr, hR.hp, hR.ow, hR.ds, hR.lt, hR.df, hR.sz, hR.gl⟩
      have := opsK_sound (Q := Q') hT hdst ops.toList 0 _ ρ I a w (by simp) h hR' hl (fun j k _ _ hk _ => hF k (by show nx ≤ k; omega)) (fun k hk => hF k (by simp only at hk ⊢; omega)) (by show nx + 32 * ops.size ≤ nx + 4096; omega) hO
        (fun s' ρ' I' a' w' hK hR1 hF1 hnx hlo htr => by
          obtain ⟨t, hK, hle⟩ := norm_spec hK hnx hlo
          exact hQ _ t ρ' I' a' w' hK (hR1.of_less hle) (by rw [hle.nx]; exact hF1) (by rw [hle.lo]; exact hlo) (by rw [hle.nx]; simp only at hnx hl ⊢; omega) htr)
      rwa [← List.range_eq_range', Array.length_toList] at this
  | .seq x y, s, N, X, hc, h, ρ, I, a, w, hR, hF, hl, hO, Q', hQ => by
    simp only [codeOk, Bool.and_eq_true] at hc
    refine wp_seq (lwpN_sound hm hT x s _ _ hc.1 h ρ I a w hR hF hl hO _ (fun e s' ρ' I' a' w' hq hR1 hF1 hlo hnx htr => ?_))
    cases e with
    | normal => exact lwpN_sound hm hT y s' _ _ hc.2 hq ρ' I' a' w' hR1 hF1 (by omega) (fun g hg => hO g (Nat.le_trans htr.step.size hg)) _ (fun e2 s2 ρ2 I2 a2 w2 hq2 hR2 hF2 hlo2 hnx2 htr2 => hQ e2 s2 ρ2 I2 a2 w2 hq2 hR2 hF2 (by omega) (by omega) (htr.trans (by rw [← hlo]; exact htr2)))
    | _ => exact hQ _ s' ρ' I' a' w' hq hR1 hF1 hlo hnx htr
  | .cond c x y, s, N, X, hc, h, ρ, I, a, w, hR, hF, hl, hO, Q', hQ => by
    simp only [codeOk, Bool.and_eq_true] at hc
    rw [lwpN_cond] at h
    have hv := leval_sound hR c
    split at h <;> (try (exact h.elim))
    rename_i t hlc
    rw [hlc] at hv
    have h := bsplit_elim h
    exact wp_cond_split (VR.atom hv) (fun ht => lwpN_sound hm hT x s N X hc.1 (h.1 ht) ρ I a w hR hF hl hO Q' hQ) (fun ht => lwpN_sound hm hT y s N X hc.2 (h.2 ht) ρ I a w hR hF hl hO Q' hQ)
  | .block id c, s, N, X, hc, h, ρ, I, a, w, hR, hF, hl, hO, Q', hQ => by
    simp only [codeOk] at hc
    refine wp_block (lwpN_sound hm hT c s _ _ hc h ρ I a w hR hF hl hO _ (fun e s' ρ' I' a' w' hq hR1 hF1 hlo hnx htr => ?_))
    cases e with
    | exit i =>
      simp only [Exit.inBlock]
      by_cases hid : i = id
      · subst hid
        rw [if_pos rfl]
        simp only [comb, Nat.beq_refl, cond_true] at hq
        exact hQ _ s' ρ' I' a' w' hq hR1 hF1 hlo hnx htr
      · rw [if_neg hid]
        have : Nat.beq i id = false := by rw [← Bool.not_eq_true, Nat.beq_eq]; exact hid
        simp only [comb, this, cond_false] at hq
        exact hQ _ s' ρ' I' a' w' hq hR1 hF1 hlo hnx htr
    | _ => exact hQ _ s' ρ' I' a' w' hq hR1 hF1 hlo hnx htr
  | .loop c, s, N, X, hc, h, ρ, I, a, w, hR, hF, hl, hO, Q', hQ => by
    simp only [codeOk] at hc
    obtain ⟨σ, J, μ, x0, hle, hround⟩ := h
    have close : ∀ (s1 : LS) (x : σ) (ρ1 : Nat → Option Value) (I1 : Nat → Prop) (a1 : Act) (w1 : World), Le s1 (J x) → s1.lo = s.lo → Rel O nt ρ1 I1 s1 a1 w1 → Fresh ρ1 s1.nx → Tr O s.lo ρ I w ρ1 I1 w1 →
        ∃ ρ2 I2, Rel O nt ρ2 I2 (J x) a1 w1 ∧ Fresh ρ2 (J x).nx ∧ (J x).lo = s.lo ∧ s.lo ≤ (J x).nx ∧ Tr O s.lo ρ I w ρ2 I2 w1 := by
      intro s1 x ρ1 I1 a1 w1 hle hlo hR1 hF1 htr
      obtain ⟨l1, l2, l3⟩ := hle
      obtain ⟨ρ2, I2, q1, q2, q2', q3, q4⟩ := l3 O nt ρ1 I1 a1 w1 hR1 hF1
      exact ⟨ρ2, I2, q3, q4, by omega, by omega, htr.trans ⟨fun k hk => q1 k (by omega), q2, q2', fun _ _ => rfl, Step.refl _ _⟩⟩
    obtain ⟨ρ2, I2, hRx, hFx, hlox, hnxx, htrx⟩ := close s x0 ρ I a w hle rfl hR hF (Tr.refl _ _ _ _ _)
    refine wp_loop_ghost (fun n a1 w1 => ∃ x ρ1 I1, μ x = n ∧ Rel O nt ρ1 I1 (J x) a1 w1 ∧ Fresh ρ1 (J x).nx ∧ (J x).lo = s.lo ∧ s.lo ≤ (J x).nx ∧ Tr O s.lo ρ I w ρ1 I1 w1) (μ x0) ⟨x0, ρ2, I2, rfl, hRx, hFx, hlox, hnxx, htrx⟩ ?_
    rintro n a1 w1 ⟨x, ρ1, I1, hn, hR1, hF1, hlo1, hnx1, htr1⟩
    refine lwpN_sound hm hT c (J x) _ _ hc (hround x) ρ1 I1 a1 w1 hR1 hF1 (by omega) (fun g hg => hO g (Nat.le_trans htr1.step.size hg)) _ (fun e s' ρ' I' a' w' hq hR' hF' hlo' hnx' htr' => ?_)
    have htr2 : Tr O s.lo ρ I w ρ' I' w' := htr1.trans (by rw [← hlo1]; exact htr')
    cases e with
    | normal =>
      obtain ⟨x', hle', hμ⟩ := hq
      obtain ⟨ρ3, I3, r1, r2, r3, r4, r5⟩ := close s' x' ρ' I' a' w' hle' (by omega) hR' hF' htr2
      exact ⟨μ x', by omega, x', ρ3, I3, rfl, r1, r2, r3, r4, r5⟩
    | _ => exact hQ _ s' ρ' I' a' w' hq hR' hF' (by omega) (by omega) htr2
  | .rangeFunc _ _ _ _, s, N, X, _, h, _, _, _, _, _, _, _, _, _, _ => h.elim
  | .scope _, s, N, X, _, h, _, _, _, _, _, _, _, _, _, _ => h.elim
  | .refuse _, s, N, X, _, h, _, _, _, _, _, _, _, _, _, _ => h.elim
  | .goto _, s, N, X, _, h, _, _, _, _, _, _, _, _, _, _ => h.elim
  | .label _, s, N, X, _, h, _, _, _, _, _, _, _, _, _, _ => h.elim
theorem lwp_sound (hm : P.follows .mixedOrders = true) (hT : TOk P T) (c : Code) (s : LS) (Q : Exit → LS → Prop) (hc : codeOk nt c = true) (h : lwp P T A c s Q) (ρ : Nat → Option Value) (I : Nat → Prop) (a : Act) (w : World) (hR : Rel O nt ρ I s a w) (hF : Fresh ρ s.nx) (hl : s.lo ≤ s.nx) (hO : ∀ g, w.heap.size ≤ g → O g)
    (Q' : Exit → Act → World → Prop) (hQ : ∀ e s' ρ' I' a' w', Q e s' → Rel O nt ρ' I' s' a' w' → Fresh ρ' s'.nx → s'.lo = s.lo → s.lo ≤ s'.nx → Tr O s.lo ρ I w ρ' I' w' → Q' e a' w') : c.wp P Q' a w :=
  lwpN_sound hm hT c s _ _ hc h ρ I a w hR hF hl hO Q' (fun e s' ρ' I' a' w' hq => hQ e s' ρ' I' a' w' (by cases e <;> exact hq))
end
end Go.Proofs.YtojaakpnpdnbhaaGreatDoor.L
