/- A part of an own row that is handed back is an own row from then on. -/
import Derived.Test.YtfcekiehcchebaaLx
set_option linter.unusedVariables false
set_option linter.unusedSimpArgs false
namespace Go.Proofs.Ytfcekiehcchebaa.L
open Go.RowKit

theorem tellV_sub {F : FZ} {G : Nat → Option Nat} {x : LV} {j k sz lo hi hi' : Nat} (h : x = .sub k sz lo hi') (hG : G j = some k) (he : hi' = hi) : TellV F G x (.sub j sz lo hi) := by
  rw [h]
  exact ⟨hG, rfl, rfl, he⟩
theorem mut_cut {P : Program} {g : FuncId} {args : List LV} {m : Nat} {hp0 : List (Nat × Ent)} {k sz r m' : Nat} {e : TypeId} {n : Nat} {f f' : Nat → List D} (h : MutOK P g args m hp0 (.sub k sz 0 r) m' [(k, .row e sz n f)]) (hr : r ≤ n) (hm : m ≤ m') (hf : ∀ i, i < r → f i = f' i) :
    MutOK P g args m hp0 (.row m') (m' + 1) [(m', .row e sz r f')] := by
  refine ⟨⟨h.some.fn, fun O nt ρ I a w vs h1 h2 h3 h4 h5 => (h.some.calls O nt ρ I a w vs h1 h2 h3 h4 h5).mono fun ev W' ⟨v, lv, m0, hp1, ρ', I', ⟨e1, e2, e3⟩, he, hv, hR, q1, q2, q3, q4, q5, q6⟩ => ?_⟩⟩
  subst e1 e2 e3
  obtain ⟨z0, u, xs, u1, u2, u3, u4, u5⟩ := hR.hp k (.row e sz n f) (by simp [hpL, Nat.beq_refl])
  have hfree : ρ' m0 = none := q2 m0 (Nat.le_refl _)
  have hgd : ∀ (l : List Value) (p q : Nat), q < p → (l.take p).getD q undef = l.getD q undef := fun l p q h => by simp [List.getD, List.getElem?_take, h]
  have hmul : ∀ i j, i < r → j < sz → i * sz + j < r * sz := fun i j hi hj => by
    have : (i + 1) * sz ≤ r * sz := Nat.mul_le_mul_right _ hi
    rw [Nat.add_mul, Nat.one_mul] at this
    omega
  have hrn : r * sz ≤ n * sz := Nat.mul_le_mul_right _ hr
  have key : (∃ A n' c, v = .slice A n' c) ∧ W'.ownsRow 0 e sz v r (xs.take (r * sz)) ∧ ∀ b, blk v = some b → blk u = some b := by
    cases hv with
    | sub0 hρ => exact ⟨⟨_, _, _, rfl⟩, ⟨by simp, .inl ⟨rfl, rfl⟩⟩, fun b hb => by simp [blk] at hb⟩
    | @sub _ _ _ _ g0 n' c off hρ a1 a2 ho =>
      obtain rfl := ho (.inr rfl)
      obtain rfl := Option.some.inj (u1.symm.trans hρ)
      refine ⟨⟨_, _, _, rfl⟩, ?_, fun b hb => by simpa [blk] using hb⟩
      rcases u2.2 with ⟨h', _⟩ | ⟨g', cap, cur, h', c1, c2, c3, c4, c5, c6⟩
      · simp at h'
      · simp only [Value.slice.injEq, Option.some.injEq, Addr.mk.injEq, and_true, true_and] at h'
        obtain ⟨rfl, rfl, rfl⟩ := h'
        refine ⟨by rw [List.length_take, u2.1]; omega, .inr ⟨g0, c, cur, by simp, c1, c2, by omega, c4, c5, ?_⟩⟩
        rw [← c6, List.take_take, Nat.min_eq_left hrn]
  obtain ⟨hsl, hown, hbk⟩ := key
  have hE : ER (upd ρ' m0 (some v)) W' I' m0 (.row e sz r f') := ⟨z0, v, xs.take (r * sz), upd_same _ _ _, hown, fun x hx => u3 x (List.mem_of_mem_take hx), fun i hi => by rw [← hf i hi]; exact u4 i (by omega), fun i j hi hj => by
    rw [hgd _ _ _ (hmul i j hi hj), ← hf i hi]
    exact u5 i j (by omega) hj⟩
  have h0 : Rel O nt ρ' I' ⟨fun _ => .bad, fun _ => none, m0, m⟩ a W' := hR.less (fun k e h => by simp at h)
  have h6 := h0.addEnt (k := m0) hfree hE (fun b hb => by
    have hb := hbk b (foot_flat rfl hb)
    obtain ⟨x1, x2, x3⟩ := hR.ow k _ u b (show hpL [(k, Ent.row e sz n f)] k = some (.row e sz n f) by simp [hpL, Nat.beq_refl]) u1 (.inl hb)
    exact ⟨x1, x2, x3, fun i e' v' h => by simp at h⟩)
  have e1 : hpL [(m0, Ent.row e sz r f')] = upd (fun _ => none) m0 (some (.row e sz r f')) := by
    funext j
    simp only [hpL, upd]
  refine ⟨v, .row m0, m0 + 1, [(m0, .row e sz r f')], upd ρ' m0 (some v), I', ⟨rfl, rfl, rfl⟩, he, .row (upd_same _ _ _) hsl, ?_, fun j hj => ?_, fun j hj => ?_, q3, q4, q5, q6⟩
  · rw [e1]
    exact ⟨fun i => .bad _, h6.hp, h6.ow, h6.ds, h6.lt, h6.df, h6.sz, h6.gl⟩
  · rw [upd_ne _ _ (by omega)]
    exact q1 j hj
  · rw [upd_ne _ _ (by omega)]
    exact q2 j (by omega)
end Go.Proofs.Ytfcekiehcchebaa.L
