/- What is known of one state is known of another: forgetting, other names. For the heads of loops. -/
import Derived.Test.YtojaakpnpdnbhaaGreatDoorLm
set_option linter.unusedVariables false
set_option linter.unusedSimpArgs false
namespace Go.Proofs.YtojaakpnpdnbhaaGreatDoor.L
open Go.RowKit

def TellDs : List D → List D → Prop
  | [], [] => True
  | x :: xs, y :: ys => DLe x y ∧ TellDs xs ys
  | _, _ => False
/-- what may turn in a telling: rows that become data, rows that are put back into the row of rows that they came from (the one row of rows for which that is done) -/
structure FZ where
  dat : Nat → D → Prop
  cls : Nat → Bool
  nk : Nat
mutual
def TellV (F : FZ) (G : Nat → Option Nat) (x : LV) (y : LV) : Prop := match y with
  | .bad => True
  | .d b => match x with
    | .d a => match a, b with
      | .v a, .v b => a = b
      | a, b => DLe a b
    | .row k => F.dat k b
    | _ => False
  | .row j => match x with
    | .row k => G j = some k
    | _ => False
  | .ptr j o => match x with
    | .ptr k o' => G j = some k ∧ o' = o
    | _ => False
  | .eptr j sz i o => match x with
    | .eptr k sz' i' o' => G j = some k ∧ sz' = sz ∧ i' = i ∧ o' = o
    | _ => False
  | .dptr ds => match x with
    | .dptr cs => TellDs cs ds
    | _ => False
  | .agg ds => match x with
    | .agg cs => TellVs F G cs ds
    | _ => False
  | .tup ds => match x with
    | .tup cs => TellVs F G cs ds
    | _ => False
  | .fn f ds => match x with
    | .fn f' cs => f' = f ∧ TellVs F G cs ds
    | _ => False
  | .mp j => match x with
    | .mp k => G j = some k
    | _ => False
  | .sub j sz lo hi => match x with
    | .sub k sz' lo' hi' => G j = some k ∧ sz' = sz ∧ lo' = lo ∧ hi' = hi
    | _ => False
  | .pptr ds => match x with
    | .pptr cs => TellDs cs ds
    | _ => False
termination_by structural y
def TellVs (F : FZ) (G : Nat → Option Nat) (xs : List LV) (ys : List LV) : Prop := match ys with
  | [] => match xs with
    | [] => True
    | _ => False
  | y :: ys => match xs with
    | x :: xs => TellV F G x y ∧ TellVs F G xs ys
    | _ => False
termination_by structural ys
end

def lookG : List (Nat × Nat) → Nat → Option Nat
  | [], _ => none
  | (a, b) :: r, j => bif Nat.beq j a then some b else lookG r j
def names (lo : Nat) (gl : List (Nat × Nat)) (j : Nat) : Option Nat := bif Nat.blt j lo then some j else lookG gl j
def TellN (F : FZ) (s : LS) (ei : TypeId) (sz k q i m : Nat) (h : Nat → List D) : NE → Prop
  | .own m' h' => m' = m ∧ ∀ j, j < m → h' j = h j
  | .hole k' => k = F.nk ∧ i = q ∧ F.cls k' = true ∧ match s.hp k' with
    | some (.row e' sz' m' h') => e' = ei ∧ sz' = sz ∧ m' = m ∧ ∀ j, j < m → h' j = h j
    | _ => False
  | .dat (.v (.slice none 0 0)) => m = 0
  | _ => False
def TellE (F : FZ) (G : Nat → Option Nat) (s : LS) (k : Nat) : Ent → Ent → Prop
  | .box t cs, .box t' ds => t = t' ∧ TellVs F G cs ds
  | .row e sz n f, .row e' sz' m g => e = e' ∧ sz = sz' ∧ n = m ∧ ∀ i, i < n → f i = g i
  | .map t f, .map t' g => t = t' ∧ ∀ x, f x = g x
  | .nest eo ei sz n L f ov, .nest eo' ei' sz' n' L' f' [] => eo = eo' ∧ ei = ei' ∧ sz = sz' ∧ n = n' ∧ ∃ q, ∀ i, i < n → TellN F s ei sz k q i (L' i) (f' i) (nOf L f ov i)
  | _, _ => False
def TellFr (F : FZ) (G : Nat → Option Nat) (s : LS) : List (Nat × LV) → Prop
  | [] => True
  | (i, y) :: r => TellV F G (s.fr i) y ∧ TellFr F G s r
def TellHp (F : FZ) (G : Nat → Option Nat) (s : LS) : List (Nat × Ent) → Prop
  | [] => True
  | (k, e) :: r => (match G k with
    | some k' => match s.hp k' with
      | some e' => TellE F G s k e' e
      | none => False
    | none => False) ∧ TellHp F G s r
def oBeq : Option Nat → Option Nat → Bool
  | some a, some b => Nat.beq a b
  | _, _ => false
def injL (G : Nat → Option Nat) : List (Nat × Ent) → Bool
  | [] => true
  | (k, _) :: r => r.all (fun p => Nat.beq k p.1 || !(oBeq (G k) (G p.1))) && injL G r

def firstNest : List (Nat × Ent) → Nat
  | [] => 0
  | (k, .nest _ _ _ _ _ _ _) :: r => k
  | _ :: r => firstNest r
/-- the rows that may be put back -/
def holesOf (s : LS) (G : Nat → Option Nat) (hl : List (Nat × Ent)) : List Nat := match G (firstNest hl) with
  | some k' => match s.hp k' with
    | some (.nest _ _ _ _ _ _ ov) => holeKeys ov
    | _ => []
  | none => []
/-- a row whose name is told no more becomes data -/
def frz (s : LS) (G : Nat → Option Nat) (hl : List (Nat × Ent)) : FZ :=
  ⟨fun k b => match s.hp k with
    | some (.row _ _ n f) => ((hl.all fun p => !(oBeq (G p.1) (some k))) && !(isIn (holesOf s G hl) k)) = true ∧ DLe (.l n f) b
    | some (.nest _ _ _ n L f []) => ((hl.all fun p => !(oBeq (G p.1) (some k))) && !(isIn (holesOf s G hl) k)) = true ∧ DLe (.l n (nestF L f)) b
    | some (.nest _ _ _ n L f ov) => (nestOk s ov && (k :: holeKeys ov).all fun j => (hl.all fun p => !(oBeq (G p.1) (some j))) && !(isIn (holesOf s G hl) j)) = true ∧ DLe (.l n (nestEl s L f ov)) b
    | _ => False, fun k => hl.all fun p => !(oBeq (G p.1) (some k)), firstNest hl⟩

section
variable {O : Nat → Prop} {nt : Nat} {ρ : Nat → Option Value} {I I' : Nat → Prop} {s : LS} {a : Act} {w : World} {G : Nat → Option Nat} {F : FZ}

theorem tellDs_get : ∀ {xs ys : List D}, TellDs xs ys → xs.length = ys.length ∧ ∀ j, j < ys.length → DLe (xs.getD j (.v undef)) (ys.getD j (.v undef))
  | [], [], _ => ⟨rfl, fun j hj => absurd hj (by simp)⟩
  | x :: xs, y :: ys, h => by
    obtain ⟨h1, h2⟩ := tellDs_get h.2
    refine ⟨by simp [h1], fun j hj => ?_⟩
    cases j with
    | zero => exact h.1
    | succ j => simpa using h2 j (by simpa using hj)
  | [], _ :: _, h => h.elim
  | _ :: _, [], h => h.elim

mutual
theorem tellV_sound (hI : ∀ b, I b → I' b) (hF : ∀ k b v, F.dat k b → VR ρ w I (.row k) v → Rd w I' b v) : ∀ (y x : LV) (v : Value), TellV F G x y → VR ρ w I x v → VR (fun j => (G j).bind ρ) w I' y v
  | .bad, x, v, _, _ => .bad v
  | .d b, x, v, h, hv => by
    cases x with
    | d a =>
      cases hv with
      | d hv =>
        cases a with
        | v a => cases b with
          | v b => rw [← (show a = b from h)]; exact .d (hv.mono hI (fun _ _ => rfl))
          | l m g => exact .d (((show DLe _ _ from h) _ _ _ hv).mono hI (fun _ _ => rfl))
        | l n f => exact .d (((show DLe _ _ from h) _ _ _ hv).mono hI (fun _ _ => rfl))
    | row k => exact .d (hF k b v (show F.dat k b from h) hv)
    | _ => exact h.elim
  | .row j, x, v, h, hv => by
    cases x with
    | row k =>
      cases hv with
      | row h1 h2 => exact .row (by simp [show G j = some k from h, h1]) h2
    | _ => exact h.elim
  | .ptr j o, x, v, h, hv => by
    cases x with
    | ptr k o' =>
      obtain ⟨h1, rfl⟩ := (show G j = some k ∧ o' = o from h)
      cases hv with
      | ptr h2 => exact .ptr (by simp [h1, h2])
    | _ => exact h.elim
  | .eptr j sz i o, x, v, h, hv => by
    cases x with
    | eptr k sz' i' o' =>
      obtain ⟨h1, rfl, rfl, rfl⟩ := (show G j = some k ∧ sz' = sz ∧ i' = i ∧ o' = o from h)
      cases hv with
      | eptr h2 => exact .eptr (by simp only [h1, Option.bind_some]; exact h2)
    | _ => exact h.elim
  | .dptr ds, x, v, h, hv => by
    cases x with
    | dptr cs =>
      obtain ⟨h1, h2⟩ := tellDs_get (show TellDs cs ds from h)
      cases hv with
      | dptr vs hs hb hc hr => exact .dptr vs hs (hI _ hb) (fun j hj => hc j (by omega)) (fun j hj => (h2 j hj _ _ _ (hr j (by omega))).mono hI (fun _ _ => rfl))
    | _ => exact h.elim
  | .agg ds, x, v, h, hv => by
    cases x with
    | agg cs =>
      cases hv with
      | agg hl hc =>
        obtain ⟨q1, q2⟩ := tellVs_sound hI hF ds cs (show TellVs F G cs ds from h) _ hc
        exact .agg (by omega) q2
    | _ => exact h.elim
  | .tup ds, x, v, h, hv => by
    cases x with
    | tup cs =>
      cases hv with
      | tup hl hc =>
        obtain ⟨q1, q2⟩ := tellVs_sound hI hF ds cs (show TellVs F G cs ds from h) _ hc
        exact .tup (by omega) q2
    | _ => exact h.elim
  | .fn f ds, x, v, h, hv => by
    cases x with
    | fn f' cs =>
      obtain ⟨rfl, h'⟩ := (show f' = f ∧ TellVs F G cs ds from h)
      cases hv with
      | fn hl hc =>
        obtain ⟨q1, q2⟩ := tellVs_sound hI hF ds cs h' _ hc
        exact .fn (by omega) q2
    | _ => exact h.elim
  | .mp j, x, v, h, hv => by
    cases x with
    | mp k =>
      cases hv with
      | mp h1 => exact .mp (by simp [show G j = some k from h, h1])
    | _ => exact h.elim
  | .sub j sz lo hi, x, v, h, hv => by
    cases x with
    | sub k sz' lo' hi' =>
      obtain ⟨h1, rfl, rfl, rfl⟩ := (show G j = some k ∧ sz' = sz ∧ lo' = lo ∧ hi' = hi from h)
      cases hv with
      | sub h2 h3 h4 h5 => exact .sub (by simp only [h1, Option.bind_some]; exact h2) h3 h4 h5
      | sub0 h2 => exact .sub0 (by simp only [h1, Option.bind_some]; exact h2)
    | _ => exact h.elim
  | .pptr ds, x, v, h, hv => by
    cases x with
    | pptr cs =>
      obtain ⟨h1, h2⟩ := tellDs_get (show TellDs cs ds from h)
      cases hv with
      | pptr hs0 hb0 hc0 hv =>
        cases hv with
        | dptr vs hs hb hc hr => exact .pptr hs0 (hI _ hb0) hc0 (.dptr vs hs (hI _ hb) (fun j hj => hc j (by omega)) (fun j hj => (h2 j hj _ _ _ (hr j (by omega))).mono hI (fun _ _ => rfl)))
    | _ => exact h.elim
theorem tellVs_sound (hI : ∀ b, I b → I' b) (hF : ∀ k b v, F.dat k b → VR ρ w I (.row k) v → Rd w I' b v) : ∀ (ys xs : List LV), TellVs F G xs ys → ∀ (u : Nat → Value), (∀ j, j < xs.length → VR ρ w I (xs.getD j .bad) (u j)) → xs.length = ys.length ∧ ∀ j, j < ys.length → VR (fun j => (G j).bind ρ) w I' (ys.getD j .bad) (u j)
  | [], xs, h, u, hv => by
    cases xs with
    | nil => exact ⟨rfl, fun j hj => absurd hj (by simp)⟩
    | cons x xs => exact h.elim
  | y :: ys, xs, h, u, hv => by
    cases xs with
    | nil => exact h.elim
    | cons x xs =>
      obtain ⟨h1, h2⟩ := (show TellV F G x y ∧ TellVs F G xs ys from h)
      obtain ⟨q1, q2⟩ := tellVs_sound hI hF ys xs h2 (fun j => u (j + 1)) (fun j hj => by simpa using hv (j + 1) (by simpa using hj))
      refine ⟨by simp [q1], fun j hj => ?_⟩
      cases j with
      | zero => exact tellV_sound hI hF y x _ h1 (by simpa using hv 0 (by simp))
      | succ j => simpa using q2 j (by simpa using hj)
end

theorem tellFr_get : ∀ {fl : List (Nat × LV)}, TellFr F G s fl → ∀ i, TellV F G (s.fr i) (frL fl i)
  | [], _, i => trivial
  | (a, y) :: r, h, i => by
    simp only [frL]
    cases hb : Nat.beq i a with
    | true => obtain rfl : i = a := by simpa using hb
              exact h.1
    | false => exact tellFr_get h.2 i

theorem tellFr_d {i : Nat} {x y : D} {r : List (Nat × LV)} (h : s.fr i = .d x) (hd : DLe x y) (hr : TellFr F G s r) : TellFr F G s ((i, .d y) :: r) := by
  refine ⟨?_, hr⟩
  show TellV F G (s.fr i) (.d y)
  rw [h]
  cases x with
  | v a => cases y with
    | v b => have := hd (default) (fun _ => True) a (.v a); cases this; rfl
    | l m g => exact hd
  | l n f => exact hd
theorem tellFr_v {i : Nat} {x y : Value} {r : List (Nat × LV)} (h : s.fr i = .d (.v x)) (hd : x = y) (hr : TellFr F G s r) : TellFr F G s ((i, .d (.v y)) :: r) := by
  refine ⟨?_, hr⟩
  show TellV F G (s.fr i) (.d (.v y))
  rw [h]
  exact hd
theorem tellFr_row {i k j : Nat} {r : List (Nat × LV)} (h : s.fr i = .row k) (hd : G j = some k) (hr : TellFr F G s r) : TellFr F G s ((i, .row j) :: r) := by
  refine ⟨?_, hr⟩
  show TellV F G (s.fr i) (.row j)
  rw [h]
  exact hd
theorem tellFr_ptr {i k j o : Nat} {r : List (Nat × LV)} (h : s.fr i = .ptr k o) (hd : G j = some k) (hr : TellFr F G s r) : TellFr F G s ((i, .ptr j o) :: r) := by
  refine ⟨?_, hr⟩
  show TellV F G (s.fr i) (.ptr j o)
  rw [h]
  exact ⟨hd, rfl⟩
theorem tellFr_x {i : Nat} {x y : LV} {r : List (Nat × LV)} (h : s.fr i = x) (hd : TellV F G x y) (hr : TellFr F G s r) : TellFr F G s ((i, y) :: r) := ⟨by rw [h]; exact hd, hr⟩
theorem tellFr_fn {i f : Nat} {cs ds : List LV} {r : List (Nat × LV)} (h : s.fr i = .fn f cs) (hd : TellVs F G cs ds) (hr : TellFr F G s r) : TellFr F G s ((i, .fn f ds) :: r) := by
  refine ⟨?_, hr⟩
  show TellV F G (s.fr i) (.fn f ds)
  rw [h]
  exact ⟨rfl, hd⟩
theorem tellV_v {x : LV} {a b : Value} (h : x = .d (.v a)) (hd : a = b) : TellV F G x (.d (.v b)) := by rw [h]; exact hd
theorem tellHp_nil : TellHp F G s [] := trivial
theorem tellHp_box {k k' : Nat} {t : TypeId} {cs ds : List LV} {r : List (Nat × Ent)} (hG : G k = some k') (h : s.hp k' = some (.box t cs)) (hd : TellVs F G cs ds) (hr : TellHp F G s r) : TellHp F G s ((k, .box t ds) :: r) := by
  refine ⟨?_, hr⟩
  simp only [hG, h]
  exact ⟨rfl, hd⟩
theorem tellHp_row {k k' : Nat} {e : TypeId} {sz n m : Nat} {f g : Nat → List D} {r : List (Nat × Ent)} (hG : G k = some k') (h : s.hp k' = some (.row e sz n f)) (hn : n = m) (hd : ∀ i, i < n → f i = g i) (hr : TellHp F G s r) : TellHp F G s ((k, .row e sz m g) :: r) := by
  refine ⟨?_, hr⟩
  simp only [hG, h]
  exact ⟨rfl, rfl, hn, hd⟩

theorem tellHp_map {k k' : Nat} {t : TypeId} {f g : Int → Bool} {r : List (Nat × Ent)} (hG : G k = some k') (h : s.hp k' = some (.map t f)) (hd : ∀ x, f x = g x) (hr : TellHp F G s r) : TellHp F G s ((k, .map t g) :: r) := by
  refine ⟨?_, hr⟩
  simp only [hG, h]
  exact ⟨rfl, hd⟩
theorem tellHp_nest {k k' : Nat} {eo ei : TypeId} {sz n m : Nat} {L L' : Nat → Nat} {f f' : Nat → Nat → List D} {r : List (Nat × Ent)} (hG : G k = some k') (h : s.hp k' = some (.nest eo ei sz n L f [])) (hn : n = m) (hd : ∀ i, i < n → L i = L' i ∧ ∀ j, j < L' i → f i j = f' i j) (hr : TellHp F G s r) :
    TellHp F G s ((k, .nest eo ei sz m L' f' []) :: r) := by
  refine ⟨?_, hr⟩
  simp only [hG, h]
  exact ⟨rfl, rfl, rfl, hn, 0, fun i hi => ⟨(hd i hi).1, (hd i hi).2⟩⟩
theorem tellHp_hole {k k' kk q : Nat} {eo ei : TypeId} {sz n m mm : Nat} {L L' : Nat → Nat} {f f' : Nat → Nat → List D} {h' : Nat → List D} {r : List (Nat × Ent)} (hG : G k = some k') (h : s.hp k' = some (.nest eo ei sz n L f [(q, .hole kk)])) (hk : k = F.nk) (hc : F.cls kk = true)
    (hrow : s.hp kk = some (.row ei sz mm h')) (hn : n = m) (hq : mm = L' q ∧ ∀ j, j < L' q → h' j = f' q j) (hd : ∀ i, i < n → i ≠ q → L i = L' i ∧ ∀ j, j < L' i → f i j = f' i j) (hr : TellHp F G s r) :
    TellHp F G s ((k, .nest eo ei sz m L' f' []) :: r) := by
  refine ⟨?_, hr⟩
  simp only [hG, h]
  refine ⟨rfl, rfl, rfl, hn, q, fun i hi => ?_⟩
  rw [nOf_cons]
  split
  · rename_i e
    subst e
    refine ⟨hk, rfl, hc, ?_⟩
    rw [hrow]
    exact ⟨rfl, rfl, hq.1, hq.2⟩
  · rename_i hne
    exact ⟨(hd i hi hne).1, (hd i hi hne).2⟩
theorem tellFr_mp {i k j : Nat} {r : List (Nat × LV)} (h : s.fr i = .mp k) (hd : G j = some k) (hr : TellFr F G s r) : TellFr F G s ((i, .mp j) :: r) := by
  refine ⟨?_, hr⟩
  rw [h]
  simpa [TellV] using hd

theorem tellHp_get : ∀ {hl : List (Nat × Ent)}, TellHp F G s hl → ∀ k e, hpL hl k = some e → ∃ k' e', G k = some k' ∧ s.hp k' = some e' ∧ TellE F G s k e' e
  | [], _, k, e, h => by simp [hpL] at h
  | (a, y) :: r, h, k, e, hk => by
    simp only [hpL] at hk
    cases hb : Nat.beq k a with
    | true =>
      obtain rfl : k = a := by simpa using hb
      rw [hb, cond_true] at hk
      obtain rfl := Option.some.inj hk
      have h1 := h.1
      split at h1
      · rename_i k' hg
        split at h1
        · rename_i e' he'
          exact ⟨k', e', hg, he', h1⟩
        · exact h1.elim
      · exact h1.elim
    | false =>
      rw [hb, cond_false] at hk
      exact tellHp_get h.2 k e hk

theorem hpL_mem : ∀ {hl : List (Nat × Ent)} {k : Nat} {e : Ent}, hpL hl k = some e → ∃ p, p ∈ hl ∧ p.1 = k
  | [], k, e, h => by simp [hpL] at h
  | (a, y) :: r, k, e, hk => by
    simp only [hpL] at hk
    cases hb : Nat.beq k a with
    | true => exact ⟨(a, y), by simp, by simpa using (show k = a by simpa using hb).symm⟩
    | false =>
      rw [hb, cond_false] at hk
      obtain ⟨p, h1, h2⟩ := hpL_mem hk
      exact ⟨p, by simp [h1], h2⟩

theorem injL_spec : ∀ {hl : List (Nat × Ent)}, injL G hl = true → ∀ p q, p ∈ hl → q ∈ hl → ∀ k, G p.1 = some k → G q.1 = some k → p.1 = q.1
  | [], _, p, q, hp, _, _, _, _ => by simp at hp
  | (a, y) :: r, h, p, q, hp, hq, k, h1, h2 => by
    simp only [injL, Bool.and_eq_true] at h
    have key : ∀ p, p ∈ r → ∀ k, G a = some k → G p.1 = some k → a = p.1 := by
      intro p hp k h1 h2
      have := List.all_eq_true.1 h.1 p hp
      rw [h1, h2] at this
      simpa [oBeq] using this
    rcases List.mem_cons.1 hp with rfl | hp <;> rcases List.mem_cons.1 hq with rfl | hq
    · rfl
    · exact key q hq k h1 h2
    · exact (key p hp k h2 h1).symm
    · exact injL_spec h.2 p q hp hq k h1 h2

theorem tellV_frz {s : LS} {G : Nat → Option Nat} {hl : List (Nat × Ent)} {x : LV} {k : Nat} {e : TypeId} {sz n : Nat} {f : Nat → List D} {b : D} (h : x = .row k) (hk : s.hp k = some (.row e sz n f)) (hc : ((hl.all fun p => !(oBeq (G p.1) (some k))) && !(isIn (holesOf s G hl) k)) = true) (hd : DLe (.l n f) b) : TellV (frz s G hl) G x (.d b) := by
  rw [h]
  show (frz s G hl).dat k b
  unfold frz
  simp only [hk]
  exact ⟨hc, hd⟩

theorem tellV_frzN {s : LS} {G : Nat → Option Nat} {hl : List (Nat × Ent)} {x : LV} {k : Nat} {eo ei : TypeId} {sz n : Nat} {L : Nat → Nat} {f : Nat → Nat → List D} {b : D} (h : x = .row k) (hk : s.hp k = some (.nest eo ei sz n L f [])) (hc : ((hl.all fun p => !(oBeq (G p.1) (some k))) && !(isIn (holesOf s G hl) k)) = true) (hd : DLe (.l n (nestF L f)) b) : TellV (frz s G hl) G x (.d b) := by
  rw [h]
  show (frz s G hl).dat k b
  unfold frz
  simp only [hk]
  exact ⟨hc, hd⟩
theorem tellV_frzH {s : LS} {G : Nat → Option Nat} {hl : List (Nat × Ent)} {x : LV} {k : Nat} {eo ei : TypeId} {sz n : Nat} {L : Nat → Nat} {f : Nat → Nat → List D} {q : Nat × NE} {ov : List (Nat × NE)} {b : D} (h : x = .row k) (hk : s.hp k = some (.nest eo ei sz n L f (q :: ov))) (hc : (nestOk s (q :: ov) && (k :: holeKeys (q :: ov)).all fun j => (hl.all fun p => !(oBeq (G p.1) (some j))) && !(isIn (holesOf s G hl) j)) = true) (hd : DLe (.l n (nestEl s L f (q :: ov))) b) : TellV (frz s G hl) G x (.d b) := by
  rw [h]
  show (frz s G hl).dat k b
  unfold frz
  simp only [hk]
  exact ⟨hc, hd⟩
theorem holeKeys_mem : ∀ {ov : List (Nat × NE)} {i k : Nat}, lookN ov i = some (.hole k) → k ∈ holeKeys ov
  | [], i, k, h => by simp [lookN] at h
  | (j, e) :: r, i, k, h => by
    simp only [lookN] at h
    cases hb : Nat.beq i j with
    | true =>
      rw [hb, cond_true] at h
      obtain rfl := Option.some.inj h
      simp [holeKeys]
    | false =>
      rw [hb, cond_false] at h
      have := holeKeys_mem h
      cases e <;> simp [holeKeys, this]
theorem nOf_hole {L : Nat → Nat} {f : Nat → Nat → List D} {ov : List (Nat × NE)} {i k : Nat} (h : nOf L f ov i = .hole k) : k ∈ holeKeys ov := by
  unfold nOf at h
  split at h
  · rename_i e he
    subst h
    exact holeKeys_mem he
  · simp at h

/-- What is known of one state is known of another. Rows that are told no more are data from then on. -/
theorem Rel.tell (h : Rel O nt ρ I s a w) {fl : List (Nat × LV)} {hl : List (Nat × Ent)} {nx lo : Nat} (h1 : TellFr (frz s G hl) G s fl) (h2 : TellHp (frz s G hl) G s hl) (h3 : injL G hl = true) :
    ∃ I' : Nat → Prop, (∀ b, I b → I' b) ∧ (∀ b, I' b → I b ∨ O b) ∧ (∀ y x v, TellV (frz s G hl) G x y → VR ρ w I x v → VR (fun j => (G j).bind ρ) w I' y v) ∧ Rel O nt (fun j => (G j).bind ρ) I' ⟨frL fl, hpL hl, nx, lo⟩ a w := by
  have val : ∀ k e v, hpL hl k = some e → (G k).bind ρ = some v → ∃ k' e', G k = some k' ∧ s.hp k' = some e' ∧ ρ k' = some v := by
    intro k e v he hv
    obtain ⟨k', e', q1, q2, q3⟩ := tellHp_get h2 k e he
    rw [q1] at hv
    exact ⟨k', e', q1, q2, hv⟩
  let J : Nat → Prop := fun b => I b ∨ ∃ k e v, ((hl.all fun p => !(oBeq (G p.1) (some k))) && !(isIn (holesOf s G hl) k)) = true ∧ s.hp k = some e ∧ ρ k = some v ∧ foot w v e b
  have hI : ∀ b, I b → J b := fun b hb => .inl hb
  have hU : ∀ k, ((hl.all fun p => !(oBeq (G p.1) (some k))) && !(isIn (holesOf s G hl) k)) = true → ∀ b, Used ρ w I s [k] b → J b := by
    rintro k hc b (hb | ⟨k', e', v', hin, q1, q2, q3⟩)
    · exact .inl hb
    · obtain rfl : k' = k := by simpa using hin
      exact .inr ⟨k', e', v', hc, q1, q2, q3⟩
  have hF : ∀ k b v, (frz s G hl).dat k b → VR ρ w I (.row k) v → Rd w J b v := by
    intro k b v hf hv
    unfold frz at hf
    simp only at hf
    split at hf <;> (try (exact hf.elim))
    · rename_i e sz n f hk
      exact hf.2 _ _ _ ((rowD h hv hk (ks := [k]) (by simp)).mono (hU k hf.1) (fun _ _ => rfl))
    · rename_i eo ei sz n L f hk
      exact hf.2 _ _ _ ((nestD h hv hk (ks := [k]) (by simp)).mono (hU k hf.1) (fun _ _ => rfl))
    · rename_i eo ei sz n L f ov hne hk
      obtain ⟨hf1, hf2⟩ := hf
      simp only [Bool.and_eq_true] at hf1
      have hall := List.all_eq_true.1 hf1.2
      refine hf2 _ _ _ ((nestDo h hv hk hf1.1 (ks := k :: holeKeys ov) (by simp) (fun j hj => List.mem_cons_of_mem _ hj)).mono ?_ (fun _ _ => rfl))
      rintro b (hb | ⟨k', e', v', hin, q1, q2, q3⟩)
      · exact .inl hb
      · exact .inr ⟨k', e', v', hall k' hin, q1, q2, q3⟩
  -- a hole of a told row of rows
  have hole : ∀ k k' eo ei sz n L f ov i kh, G k = some k' → k = firstNest hl → s.hp k' = some (.nest eo ei sz n L f ov) → nOf L f ov i = .hole kh → isIn (holesOf s G hl) kh = true := by
    intro k k' eo ei sz n L f ov i kh hk hfn hk' hn
    unfold holesOf
    rw [← hfn, hk]
    simp only [hk']
    exact isIn_iff.2 (nOf_hole hn)
  -- the blocks of what is told
  have src : ∀ k e v g, hpL hl k = some e → (G k).bind ρ = some v → foot w v e g → (∃ k' e', G k = some k' ∧ s.hp k' = some e' ∧ ρ k' = some v ∧ foot w v e' g) ∨
      (k = firstNest hl ∧ ∃ kh eh vh, (hl.all fun p => !(oBeq (G p.1) (some kh))) = true ∧ isIn (holesOf s G hl) kh = true ∧ s.hp kh = some eh ∧ ρ kh = some vh ∧ foot w vh eh g) := by
    intro k e v g he hv hg
    obtain ⟨k', e', q1, q2, q3⟩ := tellHp_get h2 k e he
    have hv' : ρ k' = some v := by rw [q1] at hv; exact hv
    rcases hg with hg | hg
    · exact .inl ⟨k', e', q1, q2, hv', .inl hg⟩
    · cases e with
      | nest eo' ei' sz' n' L' f' ov' =>
        cases e' with
        | nest eo ei sz n L f ov =>
          cases ov' with
          | cons => exact q3.elim
          | nil =>
            obtain ⟨rfl, rfl, rfl, rfl, q, ht⟩ := q3
            obtain ⟨i, m, x, u, hi, _, hu, hbu⟩ := hg
            obtain ⟨_, v0, xs, r1, r2, r3, r4, _⟩ := h.hp k' _ q2
            obtain rfl := Option.some.inj (r1.symm.trans hv')
            have hux : u = xs.getD i undef := Option.some.inj (hu.symm.trans (ownsRow_cellAt r2 hi))
            have hti := ht i hi
            have hni := r4 i hi
            cases hno : nOf L f ov i with
            | own m0 h0 => exact .inl ⟨k', _, q1, q2, hv', .inr ⟨i, m0, h0, u, hi, hno, hu, hbu⟩⟩
            | hole kh =>
              rw [hno] at hti hni
              obtain ⟨t1, t2, t3, t4⟩ := hti
              have hkh : ρ kh = some u := by rw [hux]; exact hni
              split at t4 <;> (try (exact t4.elim))
              rename_i hkr
              exact .inr ⟨t1, kh, _, u, t3, hole k k' _ _ _ _ _ _ _ i kh q1 t1 q2 hno, hkr, hkh, .inl hbu⟩
            | dat y =>
              rw [hno] at hti hni
              cases y with
              | l => exact hti.elim
              | v z =>
                have hz : xs.getD i undef = z := by cases hni; rfl
                unfold TellN at hti
                split at hti <;> (try (exact hti.elim)) <;> (try (rename_i hc; simp at hc; done))
                rename_i hc
                simp only [NE.dat.injEq, D.v.injEq] at hc
                rw [hux, hz, hc] at hbu
                simp [blk] at hbu
            | any => rw [hno] at hti; exact hti.elim
        | _ => exact q3.elim
      | _ => exact hg.elim
  have told : ∀ k e k', hpL hl k = some e → G k = some k' → (hl.all fun p => !(oBeq (G p.1) (some k'))) = true → False := by
    intro k e k' he hk hall
    obtain ⟨p, hp1, rfl⟩ := hpL_mem he
    have := List.all_eq_true.1 hall p hp1
    rw [hk] at this
    simp [oBeq] at this
  have hout : ∀ k e v g, hpL hl k = some e → (G k).bind ρ = some v → foot w v e g → ¬ J g := by
    rintro k e v g he hv hg hJ
    rcases src k e v g he hv hg with ⟨k', e', p1, p2, p3, p4⟩ | ⟨_, kh, eh, vh, c1, c2, c3, c4, c5⟩
    · rcases hJ with hb | ⟨k2, e2, v2, hall, q1, q2, q3⟩
      · exact (h.ow k' e' v g p2 p3 p4).1 hb
      · obtain rfl := h.ds k' k2 e' e2 v v2 g p2 q1 p3 q2 p4 q3
        simp only [Bool.and_eq_true] at hall
        exact told k e k' he p1 hall.1
    · rcases hJ with hb | ⟨k2, e2, v2, hall, q1, q2, q3⟩
      · exact (h.ow kh eh vh g c3 c4 c5).1 hb
      · obtain rfl := h.ds kh k2 eh e2 vh v2 g c3 q1 c4 q2 c5 q3
        rw [c2] at hall
        simp at hall
  refine ⟨J, hI, fun b hb => ?_, fun y x v ht hv => tellV_sound hI hF y x v ht hv, fun i => tellV_sound hI hF _ _ _ (tellFr_get h1 i) (h.fr i), fun k e he => ?_, fun k e v g he hv hg => ⟨hout k e v g he hv hg, ?_⟩, fun k k' e e' v v' g he he' hv hv' hg hg' => ?_, fun b hb => ?_, h.df, h.sz, h.gl.mono hI (fun _ _ => rfl)⟩
  · rcases hb with hb | ⟨k, e, v, _, q1, q2, q3⟩
    · exact .inl hb
    · exact .inr (h.ow k e v b q1 q2 q3).2.1
  · obtain ⟨k', e', q1, q2, q3⟩ := tellHp_get h2 k e he
    have := h.hp k' e' q2
    cases e' with
    | box t cs =>
      cases e with
      | box t' ds =>
        obtain ⟨rfl, q4⟩ := q3
        obtain ⟨g, us, r1, r2, r3, r4⟩ := this
        obtain ⟨p1, p2⟩ := tellVs_sound hI hF ds cs q4 _ r4
        exact ⟨g, us, by simp [q1, r1], r2, by omega, p2⟩
      | _ => exact q3.elim
    | row e0 sz n f =>
      cases e with
      | row e1 sz' m g =>
        obtain ⟨rfl, rfl, rfl, q4⟩ := q3
        obtain ⟨r0, v, xs, r1, r2, r3, r4, r5⟩ := this
        exact ⟨r0, v, xs, by simp [q1, r1], r2, r3, fun i hi => by rw [← q4 i hi]; exact r4 i hi, fun i j hi hj => by rw [← q4 i hi]; exact (r5 i j hi hj).mono hI (fun _ _ => rfl)⟩
      | _ => exact q3.elim
    | map t f =>
      cases e with
      | map t' f' =>
        obtain ⟨rfl, q4⟩ := q3
        obtain ⟨g, es, c, r1, r2, r3, r4⟩ := this
        exact ⟨g, es, c, by simp [q1, r1], r2, r3, fun n => by rw [← q4 n]; exact r4 n⟩
      | _ => exact q3.elim
    | nest eo ei sz n L f ov =>
      cases e with
      | nest eo' ei' sz' n' L' f' ov' =>
        cases ov' with
        | cons => exact q3.elim
        | nil =>
          obtain ⟨rfl, rfl, rfl, rfl, q, ht⟩ := q3
          obtain ⟨r0, v, xs, r1, r2, r3, r4, r5, r6⟩ := this
          -- where an element comes from
          have el : ∀ i, i < n → ∀ b, blk (xs.getD i undef) = some b → (∃ m h0, nOf L f ov i = .own m h0) ∨ (i = q ∧ ∃ kh e0 s0 m0 h0, s.hp kh = some (.row e0 s0 m0 h0) ∧ ρ kh = some (xs.getD i undef)) := by
            intro i hi b hb
            have hti := ht i hi
            have hni := r4 i hi
            cases hno : nOf L f ov i with
            | own m0 h0 => exact .inl ⟨_, _, rfl⟩
            | hole kh =>
              rw [hno] at hti hni
              obtain ⟨t1, t2, t3, t4⟩ := hti
              split at t4 <;> (try (exact t4.elim))
              rename_i hkr
              exact .inr ⟨t2, kh, _, _, _, _, hkr, hni⟩
            | dat y =>
              rw [hno] at hti hni
              cases y with
              | l => exact hti.elim
              | v z =>
                have hz : xs.getD i undef = z := by cases hni; rfl
                unfold TellN at hti
                split at hti <;> (try (exact hti.elim)) <;> (try (rename_i hc; simp at hc; done))
                rename_i hc
                simp only [NE.dat.injEq, D.v.injEq] at hc
                rw [hz, hc] at hb
                simp [blk] at hb
            | any => rw [hno] at hti; exact hti.elim
          refine ⟨r0, v, xs, by simp [q1, r1], r2, r3, fun i hi => ?_, fun i j m m' x y b hi hj _ _ hb hb' => ?_, fun i m x b hi _ hb hv => ?_⟩
          · show NEok _ w J ei sz (xs.getD i undef) (.own (L' i) (f' i))
            have hti := ht i hi
            have hni := r4 i hi
            cases hno : nOf L f ov i with
            | own m0 h0 =>
              rw [hno] at hti hni
              obtain ⟨rfl, t2⟩ := hti
              obtain ⟨ys, y1, y2, y3, y4⟩ := hni
              exact ⟨ys, y1, y2, fun j hj => by rw [← t2 j hj]; exact y3 j hj, fun j p hj hp => by rw [← t2 j hj]; exact (y4 j p hj hp).mono hI (fun _ _ => rfl)⟩
            | hole kh =>
              rw [hno] at hti hni
              obtain ⟨t1, t2, t3, t4⟩ := hti
              split at t4 <;> (try (exact t4.elim))
              rename_i e0 s0 m0 h0 hkr
              obtain ⟨rfl, rfl, rfl, t5⟩ := t4
              obtain ⟨_, vh, ys, z1, y1, y2, y3, y4⟩ := h.hp kh _ hkr
              obtain rfl := Option.some.inj (z1.symm.trans hni)
              exact ⟨ys, y1, y2, fun j hj => by rw [← t5 j hj]; exact y3 j hj, fun j p hj hp => by rw [← t5 j hj]; exact (y4 j p hj hp).mono hI (fun _ _ => rfl)⟩
            | dat y =>
              rw [hno] at hti hni
              cases y with
              | l => exact hti.elim
              | v z =>
                have hz : xs.getD i undef = z := by cases hni; rfl
                unfold TellN at hti
                split at hti <;> (try (exact hti.elim)) <;> (try (rename_i hc; simp at hc; done))
                rename_i hc
                simp only [NE.dat.injEq, D.v.injEq] at hc
                rw [hz, hc, hti]
                exact ⟨[], ⟨by simp, .inl ⟨rfl, rfl⟩⟩, by simp, fun j hj => absurd hj (by omega), fun j p hj => absurd hj (by omega)⟩
            | any => rw [hno] at hti; exact hti.elim
          · rcases el i hi b hb with ⟨m1, x1, hn1⟩ | ⟨hq1, kh, e0, s0, m0, h0, g1, g2⟩ <;> rcases el j hj b hb' with ⟨m2, x2, hn2⟩ | ⟨hq2, kh2, e2, s2, m2, h2', g3, g4⟩
            · exact r5 i j _ _ _ _ b hi hj hn1 hn2 hb hb'
            · have := h.ds k' kh2 _ _ _ _ b q2 g3 r1 g4 (.inr ⟨i, m1, x1, _, hi, hn1, ownsRow_cellAt r2 hi, hb⟩) (.inl hb')
              subst this
              rw [q2] at g3
              simp at g3
            · have := h.ds k' kh _ _ _ _ b q2 g1 r1 g2 (.inr ⟨j, m2, x2, _, hj, hn2, ownsRow_cellAt r2 hj, hb'⟩) (.inl hb)
              subst this
              rw [q2] at g1
              simp at g1
            · rw [hq1, hq2]
          · rcases el i hi b hb with ⟨m1, x1, hn1⟩ | ⟨hq1, kh, e0, s0, m0, h0, g1, g2⟩
            · exact r6 i _ _ b hi hn1 hb hv
            · have := h.ds k' kh _ _ _ _ b q2 g1 r1 g2 (.inl hv) (.inl hb)
              subst this
              rw [q2] at g1
              simp at g1
      | _ => exact q3.elim
  · rcases src k e v g he hv hg with ⟨k', e', p1, p2, p3, p4⟩ | ⟨_, kh, eh, vh, c1, c2, c3, c4, c5⟩
    · exact (h.ow k' e' v g p2 p3 p4).2
    · exact (h.ow kh eh vh g c3 c4 c5).2
  · rcases src k e v g he hv hg with ⟨k1, e1, p1, p2, p3, p4⟩ | ⟨hf1, kh, eh, vh, c1, c2, c3, c4, c5⟩ <;> rcases src k' e' v' g he' hv' hg' with ⟨k2, e2, r1, r2, r3, r4⟩ | ⟨hf2, kh2, eh2, vh2, d1, d2, d3, d4, d5⟩
    · have := h.ds k1 k2 e1 e2 v v' g p2 r2 p3 r3 p4 r4
      obtain ⟨p, hp1, rfl⟩ := hpL_mem he
      obtain ⟨p', hp2, rfl⟩ := hpL_mem he'
      exact injL_spec h3 p p' hp1 hp2 k1 p1 (by rw [this]; exact r1)
    · obtain rfl := h.ds k1 kh2 e1 eh2 v vh2 g p2 d3 p3 d4 p4 d5
      exact (told k e k1 he p1 d1).elim
    · obtain rfl := h.ds k2 kh e2 eh v' vh g r2 c3 r3 c4 r4 c5
      exact (told k' e' k2 he' r1 c1).elim
    · rw [hf1, hf2]
  · rcases hb with hb | ⟨k, e, v, _, q1, q2, q3⟩
    · exact h.lt b hb
    · exact (h.ow k e v b q1 q2 q3).2.2

theorem lookG_some : ∀ {gl : List (Nat × Nat)} {j k : Nat}, lookG gl j = some k → ∃ p, p ∈ gl ∧ p.1 = j
  | [], j, k, h => by simp [lookG] at h
  | (a, b) :: r, j, k, h => by
    simp only [lookG] at h
    cases hb : Nat.beq j a with
    | true => exact ⟨(a, b), by simp, (show j = a by simpa using hb).symm⟩
    | false =>
      rw [hb, cond_false] at h
      obtain ⟨p, h1, h2⟩ := lookG_some h
      exact ⟨p, by simp [h1], h2⟩

theorem le_of {fl : List (Nat × LV)} {hl : List (Nat × Ent)} {nx lo : Nat} (gl : List (Nat × Nat)) (h0 : lo = s.lo) (h1 : Nat.ble s.lo nx = true) (h2 : gl.all (fun p => Nat.blt p.1 nx) = true) (h3 : injL (names s.lo gl) hl = true) (h4 : TellHp (frz s (names s.lo gl) hl) (names s.lo gl) s hl) (h5 : TellFr (frz s (names s.lo gl) hl) (names s.lo gl) s fl) :
    Le s ⟨frL fl, hpL hl, nx, lo⟩ := by
  have h1 : s.lo ≤ nx := by simpa using h1
  refine ⟨h0, h1, fun O nt ρ I a w hR hF => ?_⟩
  obtain ⟨I', j1, j2, _, j3⟩ := hR.tell (nx := nx) (lo := lo) h5 h4 h3
  refine ⟨fun j => (names s.lo gl j).bind ρ, I', fun k hk => ?_, j1, j2, j3, fun k hk => ?_⟩
  · have : Nat.blt k s.lo = true := by simp [Nat.blt]; omega
    simp [names, this]
  · have : Nat.blt k s.lo = false := by
      have hk : nx ≤ k := hk
      rw [← Bool.not_eq_true]; simp [Nat.blt]; omega
    simp only [names, this, cond_false]
    cases hl : lookG gl k with
    | none => rfl
    | some k' =>
      obtain ⟨p, hp, rfl⟩ := lookG_some hl
      have := List.all_eq_true.1 h2 p hp
      have hk : nx ≤ p.1 := hk
      have : p.1 + 1 ≤ nx := by simpa [Nat.blt] using this
      omega
end
end Go.Proofs.YtojaakpnpdnbhaaGreatDoor.L
