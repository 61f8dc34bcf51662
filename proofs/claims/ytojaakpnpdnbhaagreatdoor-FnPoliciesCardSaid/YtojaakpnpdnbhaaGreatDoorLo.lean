/- Regions that draw their order: what an operation leaves of what it does not touch. -/
import Derived.Test.YtojaakpnpdnbhaaGreatDoorLu
set_option linter.unusedVariables false
set_option linter.unusedSimpArgs false
namespace Go.Proofs.YtojaakpnpdnbhaaGreatDoor.L
open Go.RowKit
section
variable {P : Program} {T : TT} {O : Nat → Prop} {nt : Nat} {ρ : Nat → Option Value} {I : Nat → Prop} {s : LS} {a : Act} {w : World} {kb : Nat} {o : Oper}

theorem addOwn_off (kb : Nat) : ∀ (cs : List RC) (j : Nat) (hp : Nat → Option Ent) (k : Nat), ¬ (kb + j ≤ k ∧ k < kb + j + cs.length) → addOwn kb j cs hp k = hp k
  | [], j, hp, k, _ => rfl
  | .v x :: cs, j, hp, k, h => addOwn_off kb cs (j + 1) hp k (by simp at h; omega)
  | .sh x :: cs, j, hp, k, h => addOwn_off kb cs (j + 1) hp k (by simp at h; omega)
  | .own e sz n f :: cs, j, hp, k, h => by
    simp only [addOwn]
    rw [addOwn_off kb cs (j + 1) _ k (by simp at h; omega), upd_ne _ _ (by simp at h; omega)]
  | .ownn eo ei sz n L f :: cs, j, hp, k, h => by
    simp only [addOwn]
    rw [addOwn_off kb cs (j + 1) _ k (by simp at h; omega), upd_ne _ _ (by simp at h; omega)]

theorem opF_nilT {p : Prop} {s' : LS} (h : opF T kb o (frzO o s) = some (p, s')) : nilT T o s = none := by
  unfold nilT
  split
  · rename_i op t x t' ho
    rw [show frzO o s = s by simp [frzO, ho]] at h
    unfold opF at h
    simp only [ho] at h
    split at h <;> (try (simp at h; done))
    rename_i ti hti
    split at h <;> (try (simp at h; done))
    rotate_left
    · rename_i hy; simp [leval] at hy
    rename_i u v hx hy
    split at h <;> (try (simp at h; done))
    rename_i p' r hb
    obtain rfl : v = .slice none 0 0 := by simpa [leval] using hy.symm
    unfold bin2 at hb
    split at hb <;> simp_all
  · rfl

theorem opD_opK {lz wr : Bool} {s1 : LS} (h : opD P T lz kb o s (fun wr' s' => wr' = wr ∧ s' = s1)) : opK P T lz false kb o s (fun s' => s' = s1) ∧ (wr = false → ∀ k, ¬ (kb ≤ k ∧ k < kb + 32) → s1.hp k = s.hp k) := by
  unfold opD at h
  unfold opK
  cases hc : isCall o with
  | true =>
    simp only [hc] at h ⊢
    split at h <;> (try (exact h.elim))
    rename_i g args hco
    rw [hco]
    have h := forceList_iff (fun _ _ => forceLV_iff) h
    simp only
    rcases h with ⟨r, lvs, h1, h2, h3, h4, rfl⟩ | ⟨lv, s2, h1, h3, rfl⟩
    · refine ⟨forceList_mk (fun _ _ => forceLV_mk) (.inl ⟨r, lvs, h1, h2, by simpa using h3, rfl⟩), fun hw k hk => ?_⟩
      unfold callS hpAfter
      rw [LS.put_hp]
      rw [hw] at h4
      simp only [h4, cond_false]
      have : r.leaves.length ≤ 32 := by simpa using h3
      exact addOwn_off kb _ _ _ _ (by omega)
    · refine ⟨forceList_mk (fun _ _ => forceLV_mk) (.inr ⟨trivial, ?_⟩), fun hw => ?_⟩
      · refine ⟨h1.fn, fun O nt ρ I a w vs hO hF hf hlt hR hl hv => (h1.calls O nt ρ I a w vs hO hF hf hlt hR hl hv).mono ?_⟩
        rintro e w' ⟨v, lv', s', ρ', I', rfl, ⟨rfl, rfl⟩, r⟩
        exact ⟨v, _, _, ρ', I', rfl, rfl, r⟩
      · rw [hw] at h3; exact absurd h3 (by simp)
  | false =>
    simp only [hc] at h ⊢
    split at h
    · rename_i p s' hof
      split at h <;> (try (exact h.elim))
      rename_i hn
      have hn : nilT T o s = none := by
        unfold opXn at hn
        split at hn
        · assumption
        · simp at hn
      obtain ⟨h1, h2, h3⟩ := ask_elim h
      refine ⟨?_, fun hw => ?_⟩
      · rw [hn, hof]
        exact ask_intro h1 h3
      · rw [← h2] at hw
        rw [← h3, opX_keeps hof (by simpa using hw)]
        exact fun _ _ => rfl
    rename_i hox
    split at h <;> (try (exact h.elim))
    rename_i p s' hof
    obtain ⟨k1, k2, k3⟩ := opF_keeps hof
    have : s' = s1 ∧ isWr o = wr := by
      split at h
      · exact ⟨h.2, h.1⟩
      · exact ⟨(ask_elim h).2.2, (ask_elim h).2.1⟩
    obtain ⟨rfl, rfl⟩ := this
    refine ⟨?_, fun hw k hk => by rw [frzO_id hw] at k3; exact k3 hw k (by omega)⟩
    rw [opF_nilT hof, hox, hof]
    simp only
    split at h
    · rename_i ht; rw [ht]; trivial
    · rename_i ht; rw [ht]; exact ask_intro (ask_elim h).1 trivial

/-- the operation writes its own place alone -/
theorem wp_dst {Q : Exit → Act → World → Prop} {K : Act → World → Prop} (h : o.wp P a w K Q) : o.wp P a w (fun a' w' => K a' w' ∧ ∀ t, o.dst ≠ some t → a'.tmps.getD t undef = a.tmps.getD t undef) Q := by
  have put : ∀ (v : Value) (t : Nat), o.dst ≠ some t → (a.put o.dst v).tmps.getD t undef = a.tmps.getD t undef := by
    intro v t ht
    cases hd : o.dst with
    | none => rfl
    | some d =>
      have : d ≠ t := fun e => ht (by rw [hd, e])
      simp [Act.put, Array.getD_eq_getD_getElem?, Array.getElem?_setIfInBounds_ne this]
  have put2 : ∀ (ds : List Deferred) (v : Value) (t : Nat), o.dst ≠ some t → (({ a with defers := ds } : Act).put o.dst v).tmps.getD t undef = a.tmps.getD t undef := by
    intro ds v t ht
    rw [← put v t ht]
    cases o.dst <;> rfl
  unfold Oper.wp at *
  generalize (execOp a.eval o).run P w = r at *
  cases r with
  | ok n w' =>
    cases n <;> simp only [Oper.upon] at h ⊢ <;>
      first
        | exact ⟨h, fun t ht => put _ t ht⟩
        | exact ⟨h, fun t ht => put2 _ _ t ht⟩
        | exact Calls.mono h (fun e w'' he => by cases e <;> first | exact ⟨he, fun t ht => put _ t ht⟩ | exact he)
        | exact Rows.mono h (fun _ _ he => ⟨he, fun t ht => put _ t ht⟩)
        | exact h
  | halt x w' => cases x <;> simp only [Oper.upon] at h ⊢ <;> exact h

/-- who may be written, if what is not touched may not -/
def Onot (O : Nat → Prop) (ρ : Nat → Option Value) (w : World) (s : LS) (X : List Nat) (b : Nat) : Prop := O b ∧ ¬ ∃ k e v, isIn X k = false ∧ s.hp k = some e ∧ ρ k = some v ∧ foot w v e b

theorem Rel.restr (h : Rel O nt ρ I s a w) (ts X : List Nat) : Rel (Onot O ρ w s X) nt ρ I (restr s ts X) a w := by
  have back : ∀ k e, (Go.Proofs.YtojaakpnpdnbhaaGreatDoor.L.restr s ts X).hp k = some e → isIn X k = true ∧ s.hp k = some e := by
    intro k e he
    simp only [Go.Proofs.YtojaakpnpdnbhaaGreatDoor.L.restr] at he
    cases hx : isIn X k with
    | true => rw [hx] at he; exact ⟨rfl, he⟩
    | false => rw [hx] at he; simp at he
  refine ⟨fun i => ?_, fun k e he => h.hp k e (back k e he).2, fun k e v g he hv hg => ?_, fun k k' e e' v v' g he he' => h.ds k k' e e' v v' g (back k e he).2 (back k' e' he').2, h.lt, h.df, h.sz, h.gl⟩
  · simp only [Go.Proofs.YtojaakpnpdnbhaaGreatDoor.L.restr]
    cases isIn ts i with
    | true => exact h.fr i
    | false => exact .bad _
  · obtain ⟨hx, he⟩ := back k e he
    have := h.ow k e v g he hv hg
    refine ⟨this.1, ⟨this.2.1, ?_⟩, this.2.2⟩
    rintro ⟨k', e', v', hx', he', hv', hg'⟩
    have := h.ds k k' e e' v v' g he he' hv hv' hg hg'
    rw [this, hx'] at hx
    simp at hx

theorem Rel.merge {ts X : List Nat} (h : Rel O nt ρ I s a w) {wr : Bool} {s1 : LS} {ρ' : Nat → Option Value} {I' : Nat → Prop} {a' : Act} {w' : World} {dst : Option Tmp}
    (h1 : Rel (Onot O ρ w s X) nt ρ' I' s1 a' w') (hρ : ∀ k, ¬ (kb ≤ k ∧ k < kb + 32) → k < s.nx → ρ' k = ρ k) (hfree : ∀ k, kb ≤ k → k < kb + 32 → ρ k = none) (hF : Fresh ρ s.nx)
    (hI : ∀ b, I b → I' b) (hI2 : ∀ b, I' b → I b ∨ Onot O ρ w s X b) (hkeep : ∀ b, I b → w'.heap[b]? = w.heap[b]?) (hst : Step (Onot O ρ w s X) w w')
    (hf : ∀ t, dst ≠ some t → a'.tmps.getD t undef = a.tmps.getD t undef) (hwr : wr = false → ∀ k, ¬ (kb ≤ k ∧ k < kb + 32) → s1.hp k = (Go.Proofs.YtojaakpnpdnbhaaGreatDoor.L.restr s ts X).hp k) :
    Rel O nt ρ' I' (Go.Proofs.YtojaakpnpdnbhaaGreatDoor.L.merge dst kb wr X s s1) a' w' := by
  have hE : Ext ρ ρ' := fun k v hv => by
    by_cases hk : kb ≤ k ∧ k < kb + 32
    · rw [hfree k hk.1 hk.2] at hv; simp at hv
    · by_cases hk2 : k < s.nx
      · rw [hρ k hk hk2]; exact hv
      · rw [hF k (by omega)] at hv; simp at hv
  -- each thing that is told is told by the operation or by what was there and is not touched
  have src : ∀ k e, (Go.Proofs.YtojaakpnpdnbhaaGreatDoor.L.merge dst kb wr X s s1).hp k = some e → s1.hp k = some e ∨ (isIn X k = false ∧ s.hp k = some e) := by
    intro k e he
    simp only [Go.Proofs.YtojaakpnpdnbhaaGreatDoor.L.merge] at he
    cases hb : (wr && isIn X k) || blkOf kb k with
    | true => rw [hb] at he; exact .inl he
    | false =>
      rw [hb] at he
      simp only [cond_false] at he
      simp only [Bool.or_eq_false_iff] at hb
      cases hx : isIn X k with
      | false => exact .inr ⟨rfl, he⟩
      | true =>
        rw [hx, Bool.and_true] at hb
        refine .inl ?_
        have hnb : ¬ (kb ≤ k ∧ k < kb + 32) := by
          rw [← blkOf_iff, hb.2]; simp
        rw [hwr hb.1 k hnb]
        simp only [Go.Proofs.YtojaakpnpdnbhaaGreatDoor.L.restr, hx, cond_true]
        exact he
  have old0 : ∀ k e v g, isIn X k = false → s.hp k = some e → ρ' k = some v → foot w v e g → ρ k = some v ∧ ¬ Onot O ρ w s X g ∧ ¬ I g ∧ O g ∧ g < w.heap.size := by
    intro k e v g hx he hv hg
    have hρk : ρ k = some v := by
      obtain ⟨u, h3⟩ := (h.hp k e he).named
      rw [h3, ← hv, hE _ _ h3]
    have := h.ow k e v g he hρk hg
    exact ⟨hρk, fun ho => ho.2 ⟨k, e, v, hx, he, hρk, hg⟩, this⟩
  have dn : ∀ k e v g, isIn X k = false → s.hp k = some e → ρ' k = some v → foot w' v e g → foot w v e g := fun k e v g hx he hv hg => foot_same (fun b hb => by
    obtain ⟨_, q2, _, _, q5⟩ := old0 k e v b hx he hv (.inl hb)
    exact hst.keep b q2 q5) hg
  have old : ∀ k e v g, isIn X k = false → s.hp k = some e → ρ' k = some v → foot w' v e g → ρ k = some v ∧ ¬ Onot O ρ w s X g ∧ ¬ I g ∧ O g ∧ g < w.heap.size := fun k e v g hx he hv hg => old0 k e v g hx he hv (dn k e v g hx he hv hg)
  refine ⟨fun i => ?_, fun k e he => ?_, fun k e v g he hv hg => ?_, fun k k' e e' v v' g he he' hv hv' hg hg' => ?_, h1.lt, h1.df, h1.sz, h1.gl⟩
  · have keep : dst ≠ some i → VR ρ' w' I' (s.fr i) (a'.tmps.getD i undef) := by
      intro hd
      rw [hf i hd]
      exact (h.fr i).mono hE hI hkeep
    cases dst with
    | none => exact keep (by simp)
    | some d =>
      simp only [Go.Proofs.YtojaakpnpdnbhaaGreatDoor.L.merge, upd_eq]
      split
      · rename_i e; subst e; exact h1.fr i
      · rename_i e; exact keep (fun h => e (by simpa using h.symm))
  · rcases src k e he with he1 | ⟨hx, he1⟩
    · exact h1.hp k e he1
    · refine (h.hp k e he1).mono hE hI hkeep (fun v g hv hg => ?_)
      obtain ⟨_, q2, _, _, q5⟩ := old0 k e v g hx he1 (hE _ _ hv) hg
      exact hst.keep g q2 q5
  · rcases src k e he with he1 | ⟨hx, he1⟩
    · have := h1.ow k e v g he1 hv hg
      exact ⟨this.1, this.2.1.1, this.2.2⟩
    · obtain ⟨q1, q2, q3, q4, q5⟩ := old k e v g hx he1 hv hg
      exact ⟨fun hi => (hI2 g hi).elim q3 q2, q4, Nat.lt_of_lt_of_le q5 hst.size⟩
  · rcases src k e he with he1 | ⟨hx, he1⟩ <;> rcases src k' e' he' with he2 | ⟨hx', he2⟩
    · exact h1.ds k k' e e' v v' g he1 he2 hv hv' hg hg'
    · obtain ⟨q1, q2, _⟩ := old k' e' v' g hx' he2 hv' hg'
      exact absurd (h1.ow k e v g he1 hv hg).2.1 q2
    · obtain ⟨q1, q2, _⟩ := old k e v g hx he1 hv hg
      exact absurd (h1.ow k' e' v' g he2 hv' hg').2.1 q2
    · obtain ⟨q1, _⟩ := old k e v g hx he1 hv hg
      obtain ⟨r1, _⟩ := old k' e' v' g hx' he2 hv' hg'
      exact h.ds k k' e e' v v' g he1 he2 q1 r1 (dn k e v g hx he1 hv hg) (dn k' e' v' g hx' he2 hv' hg')

/-- One operation that sees what it touches alone, in a world where all is told. -/
theorem opD_sound (hT : TOk P T) {lz : Bool} {ts X : List Nat} {wr : Bool} {s1 : LS} (h : opD P T lz kb o (restr s ts X) (fun wr' s' => wr' = wr ∧ s' = s1)) (hR : Rel O nt ρ I s a w) (hd : ∀ d, o.dst = some d → d < nt)
    (hfree : ∀ k, kb ≤ k → k < kb + 32 → ρ k = none) (hF : Fresh ρ s.nx) (hlt : kb + 32 ≤ s.nx) (hO : ∀ g, w.heap.size ≤ g → O g) (Q : Exit → Act → World → Prop) :
    o.wp P a w (fun a' w' => ∃ ρ' I', Rel O nt ρ' I' (merge o.dst kb wr X s s1) a' w' ∧ (∀ k, ¬ (kb ≤ k ∧ k < kb + 32) → k < s.nx → ρ' k = ρ k) ∧ Fresh ρ' s.nx ∧ (∀ b, I b → I' b) ∧ (∀ b, I' b → I b ∨ O b) ∧ (∀ b, I b → w'.heap[b]? = w.heap[b]?) ∧ Step O w w') Q := by
  obtain ⟨h1, h3⟩ := opD_opK h
  have hO' : ∀ g, w.heap.size ≤ g → Onot O ρ w s X g := fun g hg => ⟨hO g hg, fun ⟨k, e, v, _, he, hv, hb⟩ => absurd (hR.ow k e v g he hv hb).2.2 (by omega)⟩
  refine Oper.wp_mono (fun a' w' hA => ?_) (wp_dst (opK_sound hT h1 (hR.restr ts X) hd hfree hF hlt hO' Q))
  obtain ⟨⟨s', ρ', I', rfl, q1, q2, q3, q4, q5, q6, q7, q8, q9⟩, hf⟩ := hA
  exact ⟨ρ', I', hR.merge q1 q2 hfree hF q6 q7 q8 q9 hf h3, q2, q3, q6, fun b hb => (q7 b hb).imp id (·.1), q8, ⟨q9.os, q9.tape, q9.output, q9.size, fun b hb hl => q9.keep b (fun h => hb h.1) hl⟩⟩
end
end Go.Proofs.YtojaakpnpdnbhaaGreatDoor.L
