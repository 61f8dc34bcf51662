/- A function's memory ahead of it, told in other words. -/
import Derived.Test.YtojaakpnpdnbhaaGreatDoorLx
set_option linter.unusedVariables false
set_option linter.unusedSimpArgs false
namespace Go.Proofs.YtojaakpnpdnbhaaGreatDoor.L
open Go.RowKit
def EExt : Ent → Ent → Prop
  | .row e sz n f, .row e' sz' m g => e = e' ∧ sz = sz' ∧ n = m ∧ ∀ i, i < n → f i = g i
  | .nest eo ei sz n L f [], .nest eo' ei' sz' n' L' f' [] => eo = eo' ∧ ei = ei' ∧ sz = sz' ∧ n = n' ∧ ∀ i, i < n → L i = L' i ∧ ∀ j, j < L i → f i j = f' i j
  | a, b => a = b
def HExt : List (Nat × Ent) → List (Nat × Ent) → Prop
  | [], [] => True
  | (k, a) :: r, (k', b) :: r' => k = k' ∧ EExt a b ∧ HExt r r'
  | _, _ => False
theorem hExt_get : ∀ {l l' : List (Nat × Ent)}, HExt l l' → ∀ k e, hpL l' k = some e → ∃ e', hpL l k = some e' ∧ EExt e' e
  | [], [], _, k, e, h => by simp [hpL] at h
  | (a, x) :: r, (b, y) :: r', h, k, e, hk => by
    obtain ⟨rfl, h2, h3⟩ := h
    simp only [hpL] at hk ⊢
    cases hb : Nat.beq k a with
    | true =>
      rw [hb, cond_true] at hk
      obtain rfl := Option.some.inj hk
      exact ⟨x, rfl, h2⟩
    | false =>
      rw [hb, cond_false] at hk
      exact hExt_get h3 k e hk
  | [], _ :: _, h, _, _, _ => h.elim
  | _ :: _, [], h, _, _, _ => h.elim
theorem ER.ext {ρ : Nat → Option Value} {w : World} {I : Nat → Prop} {k : Nat} {e e' : Ent} (h : ER ρ w I k e') (hx : EExt e' e) : ER ρ w I k e ∧ ∀ v g, foot w v e g → foot w v e' g := by
  unfold EExt at hx
  split at hx
  · rename_i t sz n f t' sz' m g
    obtain ⟨rfl, rfl, rfl, q⟩ := hx
    obtain ⟨r0, v, xs, r1, r2, r3, r4, r5⟩ := h
    exact ⟨⟨r0, v, xs, r1, r2, r3, fun i hi => by rw [← q i hi]; exact r4 i hi, fun i j hi hj => by rw [← q i hi]; exact r5 i j hi hj⟩, fun v g hg => .inl (foot_flat rfl hg)⟩
  · rename_i eo ei sz n L f eo' ei' sz' n' L' f'
    obtain ⟨rfl, rfl, rfl, rfl, q⟩ := hx
    obtain ⟨r0, v, xs, r1, r2, r3, r4, r5, r6⟩ := h
    refine ⟨⟨r0, v, xs, r1, r2, r3, fun i hi => ?_, fun i j m m' x y b hi hj _ _ => r5 i j _ _ _ _ b hi hj rfl rfl, fun i m x b hi _ => r6 i _ _ b hi rfl⟩, fun v g hg => foot_nest hg⟩
    obtain ⟨ys, y1, y2, y3, y4⟩ := r4 i hi
    obtain ⟨q1, q2⟩ := q i hi
    refine ⟨ys, by rw [← q1]; exact y1, y2, fun j hj => ?_, fun j p hj hp => ?_⟩
    · rw [← q1] at hj
      rw [← q2 j hj]; exact y3 j hj
    · rw [← q1] at hj
      rw [← q2 j hj]; exact y4 j p hj hp
  · subst hx
    exact ⟨h, fun _ _ h => h⟩
theorem MutS.rows {P : Program} {g : FuncId} {args : List LV} {m : Nat} {hp0 hp0' : List (Nat × Ent)} {R : LV → Nat → List (Nat × Ent) → Prop} (h : MutS P g args m hp0 R) (hx : HExt hp0' hp0) : MutS P g args m hp0' R :=
  ⟨h.fn, fun O nt ρ I a w vs h1 h2 hR h4 h5 => h.calls O nt ρ I a w vs h1 h2 ⟨hR.fr, fun k e he => by
      obtain ⟨e', q1, q2⟩ := hExt_get hx k e he
      exact ((hR.hp k e' q1).ext q2).1, fun k e v g he hv hg => by
      obtain ⟨e', q1, q2⟩ := hExt_get hx k e he
      exact hR.ow k e' v g q1 hv (((hR.hp k e' q1).ext q2).2 v g hg), fun k k' e1 e2 v v' g he he' hv hv' hg hg' => by
      obtain ⟨e1', q1, p1⟩ := hExt_get hx k e1 he
      obtain ⟨e2', q2, p2⟩ := hExt_get hx k' e2 he'
      exact hR.ds k k' e1' e2' v v' g q1 q2 hv hv' (((hR.hp k e1' q1).ext p1).2 v g hg) (((hR.hp k' e2' q2).ext p2).2 v' g hg'), hR.lt, hR.df, hR.sz, hR.gl⟩ h4 h5⟩
theorem MutOK.rows {P : Program} {g : FuncId} {args : List LV} {m : Nat} {hp0 hp0' : List (Nat × Ent)} {lv : LV} {m' : Nat} {hp1 : List (Nat × Ent)} (h : MutOK P g args m hp0 lv m' hp1) (hx : HExt hp0' hp0) : MutOK P g args m hp0' lv m' hp1 := ⟨MutS.rows h.some hx⟩
/-- what is known of one value is known of another -/
def LVLe (x y : LV) : Prop := ∀ W F v, VR (fun _ => none) W F x v → VR (fun _ => none) W F y v
theorem LVLe.refl (x : LV) : LVLe x x := fun _ _ _ h => h
theorem LVLe.d {x y : D} (h : DLe x y) : LVLe (.d x) (.d y) := fun W F v hv => by
  cases hv with
  | d hv => exact .d (h _ _ _ hv)
def LVsLe : List LV → List LV → Prop
  | [], [] => True
  | x :: xs, y :: ys => LVLe x y ∧ LVsLe xs ys
  | _, _ => False
theorem lvsLe_get : ∀ {xs ys : List LV}, LVsLe xs ys → xs.length = ys.length ∧ ∀ j, LVLe (xs.getD j .bad) (ys.getD j .bad)
  | [], [], _ => ⟨rfl, fun j => LVLe.refl _⟩
  | x :: xs, y :: ys, h => by
    obtain ⟨h1, h2⟩ := lvsLe_get h.2
    refine ⟨by simp [h1], fun j => ?_⟩
    cases j with
    | zero => exact h.1
    | succ j => simpa using h2 j
  | [], _ :: _, h => h.elim
  | _ :: _, [], h => h.elim
theorem LVLe.agg {xs ys : List LV} (h : LVsLe xs ys) : LVLe (.agg xs) (.agg ys) := fun W F v hv => by
  obtain ⟨h1, h2⟩ := lvsLe_get h
  cases hv with
  | agg hl hc => exact .agg (by omega) (fun j hj => h2 j _ _ _ (hc j (by omega)))
theorem DLe.nil (f : Nat → List D) : DLe (.v (.slice none 0 0)) (.l 0 f) := fun w I v h => by
  cases h with
  | v => exact .nil _ _ _
theorem FnS.weak {P : Program} {g : FuncId} {xs ys : List LV} {R : RV → Prop} (h : FnS P g ys R) (hl : LVsLe xs ys) : FnS P g xs R := by
  obtain ⟨h1, h2⟩ := lvsLe_get hl
  exact ⟨h.fn, fun W F vs q1 q2 q3 => h.calls W F vs q1 (by omega) (fun j hj => h2 j _ _ _ (q3 j (by omega)))⟩
theorem FnOK.weak {P : Program} {g : FuncId} {xs ys : List LV} {r : RV} (h : FnOK P g ys r) (hl : LVsLe xs ys) : FnOK P g xs r := (h.some.weak hl).one
end Go.Proofs.YtojaakpnpdnbhaaGreatDoor.L
