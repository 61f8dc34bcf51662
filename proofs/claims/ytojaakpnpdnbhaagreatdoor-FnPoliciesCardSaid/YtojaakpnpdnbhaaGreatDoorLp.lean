/- Regions that draw their order: text order tells of every order. -/
import Derived.Test.YtojaakpnpdnbhaaGreatDoorLo
set_option linter.unusedVariables false
set_option linter.unusedSimpArgs false
namespace Go.Proofs.YtojaakpnpdnbhaaGreatDoor.L
open Go.RowKit

/-! ## what stands in a place when some have run -/
def curN {V : Type} (val : Nat → Nat → V) (wr : Nat → Nat → Bool) (S : Nat → Bool) : Nat → Nat → V
  | 0, l => val 0 l
  | m + 1, l => bif S m && wr m l then val (m + 1) l else curN val wr S m l
section
variable {V : Type} {val : Nat → Nat → V} {wr : Nat → Nat → Bool} {S : Nat → Bool} {n l : Nat}
theorem curN_agree (hv : ∀ i, i < n → wr i l = false → val (i + 1) l = val i l) {i : Nat} (hi : i ≤ n) (h1 : ∀ j, j < i → wr j l = true → S j = true) (h2 : ∀ j, i ≤ j → j < n → wr j l = true → S j = false) : curN val wr S n l = val i l := by
  have low : ∀ m, m ≤ i → curN val wr S m l = val m l := by
    intro m
    induction m with
    | zero => intro _; rfl
    | succ m ih =>
      intro hm
      simp only [curN]
      cases hw : wr m l with
      | true => simp [h1 m (by omega) hw]
      | false => simp [ih (by omega), hv m (by omega) hw]
  have high : ∀ m, i ≤ m → m ≤ n → curN val wr S m l = val i l := by
    intro m
    induction m with
    | zero => intro h _; rw [show i = 0 by omega]; rfl
    | succ m ih =>
      intro h hm
      rcases Nat.lt_or_ge m i with h' | h'
      · rw [show i = m + 1 by omega]; exact low _ (by omega)
      · simp only [curN]
        cases hw : wr m l with
        | true => simp [h2 m h' (by omega) hw, ih h' (by omega)]
        | false => simp [ih h' (by omega)]
  exact high n hi (Nat.le_refl _)
def addS (S : Nat → Bool) (i : Nat) : Nat → Bool := fun m => Nat.beq m i || S m
theorem addS_self (S : Nat → Bool) (i : Nat) : addS S i i = true := by simp [addS]
theorem addS_ne (S : Nat → Bool) {i m : Nat} (h : m ≠ i) : addS S i m = S m := by
  have : Nat.beq m i = false := by rw [← Bool.not_eq_true, Nat.beq_eq]; exact h
  simp [addS, this]
theorem curN_add_ne {i : Nat} (hw : wr i l = false) : curN val wr (addS S i) n l = curN val wr S n l := by
  induction n with
  | zero => rfl
  | succ m ih =>
    simp only [curN, ih]
    by_cases h : m = i
    · subst h; simp [hw]
    · rw [addS_ne _ h]
theorem curN_add {i : Nat} (hw : wr i l = true) (hi : i < n) (h2 : ∀ j, i < j → j < n → wr j l = true → S j = false) : curN val wr (addS S i) n l = val (i + 1) l := by
  induction n with
  | zero => omega
  | succ m ih =>
    simp only [curN]
    by_cases h : m = i
    · subst h; simp [addS_self, hw]
    · have hm : i < m := by omega
      rw [addS_ne _ h]
      have hrec := ih hm (fun j h1 h3 => h2 j h1 (by omega))
      cases hwm : wr m l with
      | true => simp [h2 m hm (by omega) hwm, hrec]
      | false => simp [hrec]
end

/-! ## who comes before -/
theorem maskOf_bit {o : Oper} {acc : List Nat} {j : Nat} (h : Nat.testBit (maskOf o acc) j = true) : ∃ e ∈ o.after.toList, Region.binds .any e = true ∧ (e.on = j ∨ Nat.testBit (acc.getD e.on 0) j = true) := by
  unfold maskOf at h
  have gen : ∀ (l : List Edge) (m : Nat), Nat.testBit (l.foldl (fun m e => bif Region.binds .any e then m ||| (1 <<< e.on) ||| acc.getD e.on 0 else m) m) j = true → Nat.testBit m j = true ∨ ∃ e ∈ l, Region.binds .any e = true ∧ (e.on = j ∨ Nat.testBit (acc.getD e.on 0) j = true) := by
    intro l
    induction l with
    | nil => intro m h; exact .inl h
    | cons e l ih =>
      intro m h
      rcases ih _ h with h | ⟨e', he', h⟩
      · dsimp only at h
        cases hb : Region.binds .any e with
        | false => rw [hb] at h; exact .inl h
        | true =>
          rw [hb, cond_true, Nat.testBit_or, Nat.testBit_or, Bool.or_eq_true, Bool.or_eq_true] at h
          rcases h with (h | h) | h
          · exact .inl h
          · rw [Nat.one_shiftLeft, Nat.testBit_two_pow] at h
            exact .inr ⟨e, by simp, hb, .inl (by simpa using h)⟩
          · exact .inr ⟨e, by simp, hb, .inr h⟩
      · exact .inr ⟨e', by simp [he'], h⟩
  rcases gen _ _ h with h | h
  · simp at h
  · exact h

theorem masksGo_spec : ∀ (os : List Oper) (acc : List Nat), (∀ m, m < acc.length → (masksGo os acc).getD m 0 = acc.getD m 0) ∧
    (∀ r o, os[r]? = some o → ∃ acc' : List Nat, (masksGo os acc).getD (acc.length + r) 0 = maskOf o acc' ∧ acc'.length = acc.length + r ∧ ∀ m, m < acc'.length → (masksGo os acc).getD m 0 = acc'.getD m 0) ∧ (masksGo os acc).length = acc.length + os.length
  | [], acc => ⟨fun _ _ => rfl, fun r o h => by simp at h, rfl⟩
  | o :: os, acc => by
    obtain ⟨h1, h2, h3⟩ := masksGo_spec os (acc ++ [maskOf o acc])
    have hap : ∀ m, m < acc.length → (acc ++ [maskOf o acc]).getD m 0 = acc.getD m 0 := by
      intro m hm
      simp [List.getD, List.getElem?_append_left hm]
    have hlow : ∀ m, m < acc.length → (masksGo (o :: os) acc).getD m 0 = acc.getD m 0 := by
      intro m hm
      simp only [masksGo]
      rw [h1 m (by simp; omega), hap m hm]
    refine ⟨hlow, fun r o' hr => ?_, by simp only [masksGo]; rw [h3]; simp; omega⟩
    cases r with
    | zero =>
      simp only [List.getElem?_cons_zero, Option.some.injEq] at hr
      subst hr
      refine ⟨acc, ?_, rfl, hlow⟩
      simp only [masksGo, Nat.add_zero]
      rw [h1 _ (by simp)]
      simp [List.getD]
    | succ r =>
      obtain ⟨acc', q1, q2, q3⟩ := h2 r o' (by simpa using hr)
      refine ⟨acc', ?_, by rw [q2]; simp; omega, q3⟩
      simp only [masksGo]
      rw [← q1]
      congr 1
      simp
      omega

theorem masks_bit {ops : Array Oper} {i j : Nat} (h : bit (masks ops) i j = true) : ∃ o, ops[i]? = some o ∧ ∃ e ∈ o.after, Region.binds .any e = true ∧ (e.on = j ∨ bit (masks ops) e.on j = true) := by
  obtain ⟨h1, h2, h3⟩ := masksGo_spec ops.toList []
  have hi : i < ops.size := by
    rcases Nat.lt_or_ge i ops.size with hi | hi
    · exact hi
    · unfold bit masks at h
      have : (masksGo ops.toList []).getD i 0 = 0 := by
        simp [List.getD, List.getElem?_eq_none (show (masksGo ops.toList []).length ≤ i by rw [h3]; simpa using hi)]
      rw [this] at h
      simp at h
  obtain ⟨acc', q1, q2, q3⟩ := h2 i ops[i] (by simp [hi])
  unfold bit masks at h ⊢
  simp only [List.length_nil, Nat.zero_add] at q1 q2
  rw [q1] at h
  obtain ⟨e, he, hb, hj⟩ := maskOf_bit h
  refine ⟨ops[i], by simp [hi], e, by simpa using he, hb, hj.imp id (fun hj => ?_)⟩
  have hlt : e.on < acc'.length := by
    rcases Nat.lt_or_ge e.on acc'.length with h' | h'
    · exact h'
    · simp [List.getD, List.getElem?_eq_none h'] at hj
  rw [q3 _ hlt]
  exact hj

theorem okD_back {ops : Array Oper} {ms : List Nat} (h : okD ops ms = true) {i : Nat} {o : Oper} (ho : ops[i]? = some o) {e : Edge} (he : e ∈ o.after) (hb : Region.binds .any e = true) : e.on < i := by
  have hi : i < ops.size := (Array.getElem?_eq_some_iff.1 ho).1
  have := List.all_eq_true.1 h i (by simpa using hi)
  rw [ho] at this
  simp only [Bool.and_eq_true] at this
  have := List.all_eq_true.1 this.1 e (by simpa using he)
  rw [hb] at this
  have : e.on + 1 ≤ i := by simpa [Nat.blt] using this
  omega

theorem okD_dst {ops : Array Oper} {ms : List Nat} (h : okD ops ms = true) {i j : Nat} {o o' : Oper} {d : Nat} (ho : ops[i]? = some o) (hd : o.dst = some d) (ho' : ops[j]? = some o') (hc : d ∈ o'.looksAt ops ∨ o'.dst = some d) : comp ms i j = true := by
  have hi : i < ops.size := (Array.getElem?_eq_some_iff.1 ho).1
  have hj : j < ops.size := (Array.getElem?_eq_some_iff.1 ho').1
  have := List.all_eq_true.1 h i (by simpa using hi)
  rw [ho] at this
  simp only [Bool.and_eq_true, hd] at this
  have := List.all_eq_true.1 this.2 j (by simpa using hj)
  rw [ho', Bool.or_eq_true] at this
  rcases this with h | h
  · exact h
  · simp only [Bool.and_eq_true, Bool.not_eq_true'] at h
    rcases hc with hc | hc
    · rw [isIn_iff.2 hc] at h; simp at h
    · rw [hc] at h; simp at h

theorem bit_lt {ops : Array Oper} (h : okD ops (masks ops) = true) : ∀ i j, bit (masks ops) i j = true → j < i := by
  intro i
  induction i using Nat.strongRecOn with
  | ind i ih =>
    intro j hj
    obtain ⟨o, ho, e, he, hb, hor⟩ := masks_bit hj
    have := okD_back h ho he hb
    rcases hor with rfl | hor
    · exact this
    · have := ih e.on this j hor; omega

/-! ## the chain of text order -/
theorem chain_spec {P : Program} {T : TT} {ops : Array Oper} {nx0 : Nat} {i : Nat} {os : List Oper} {s : LS} {tr : List (Bool × List Nat)} {ss : List LS} (h : Chain P T ops nx0 i os s tr ss) :
    tr.length = os.length ∧ ss.length = os.length ∧ ∀ j o, os[j]? = some o → ∃ x, tr[j]? = some x ∧ JS P T ops nx0 (i + j) o ((s :: ss).getD j s) x ((s :: ss).getD (j + 1) s) := by
  induction h with
  | nil i s => exact ⟨rfl, rfl, fun j o h => by simp at h⟩
  | @cons i o os s s' x tr ss h hc ih =>
    obtain ⟨h1, h2, h3⟩ := ih
    refine ⟨by simp [h1], by simp [h2], fun j o' hj => ?_⟩
    cases j with
    | zero =>
      simp only [List.getElem?_cons_zero, Option.some.injEq] at hj
      subst hj
      exact ⟨x, by simp, by simpa [List.getD] using h⟩
    | succ j =>
      obtain ⟨y, q1, q2⟩ := h3 j o' (by simpa using hj)
      refine ⟨y, by simpa using q1, ?_⟩
      have hj2 : j < os.length := by
        have : (o :: os)[j + 1]? = some o' := hj
        simp only [List.getElem?_cons_succ] at this
        exact (List.getElem?_eq_some_iff.1 this).1
      have gd : ∀ (l : List LS) (m : Nat) (d d' : LS), m < l.length → l.getD m d = l.getD m d' := by
        intro l m d d' hm
        simp [List.getD, List.getElem?_eq_getElem hm]
      have e1 : (s :: s' :: ss).getD (j + 1) s = (s' :: ss).getD j s' := by
        rw [List.getD_cons_succ]
        exact gd _ _ _ _ (by simp; omega)
      have e2 : (s :: s' :: ss).getD (j + 1 + 1) s = (s' :: ss).getD (j + 1) s' := by
        rw [List.getD_cons_succ]
        exact gd _ _ _ _ (by simp; omega)
      rw [e1, e2, show i + (j + 1) = i + 1 + j by omega]
      exact q2
end Go.Proofs.YtojaakpnpdnbhaaGreatDoor.L
