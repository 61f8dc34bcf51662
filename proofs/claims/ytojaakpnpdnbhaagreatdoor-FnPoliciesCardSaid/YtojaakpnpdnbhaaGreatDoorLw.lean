/- Values are forced: what a state holds is written out as far as it goes. -/
import Derived.Test.YtojaakpnpdnbhaaGreatDoorLj
set_option linter.unusedVariables false
set_option linter.unusedSimpArgs false
namespace Go.Proofs.YtojaakpnpdnbhaaGreatDoor.L
open Go.RowKit
def forceVal (x : Value) (K : Value → Prop) : Prop := match x with
  | .int k n => K (.int k n)
  | .bool b => K (.bool b)
  | .string b => K (.string b)
  | .slice a n c => K (.slice a n c)
  | y => K y
theorem forceVal_iff {x : Value} {K : Value → Prop} (h : forceVal x K) : K x := by cases x <;> exact h
def forceD (x : D) (K : D → Prop) : Prop := match x with
  | .v x => forceVal x fun x => K (.v x)
  | .l n f => K (.l n f)
theorem forceD_iff {x : D} {K : D → Prop} (h : forceD x K) : K x := by
  cases x with
  | v x => exact forceVal_iff (K := fun x => K (.v x)) h
  | l n f => exact h
def forceList {α : Type} (f : α → (α → Prop) → Prop) : List α → (List α → Prop) → Prop
  | [], K => K []
  | x :: xs, K => f x fun x' => forceList f xs fun xs' => K (x' :: xs')
theorem forceList_iff {α : Type} {f : α → (α → Prop) → Prop} (hf : ∀ x K, f x K → K x) : ∀ {xs : List α} {K : List α → Prop}, forceList f xs K → K xs
  | [], K, h => h
  | x :: xs, K, h => by
    have h1 := hf _ _ h
    exact forceList_iff (K := fun xs' => K (x :: xs')) hf h1
def force0 (x : LV) (K : LV → Prop) : Prop := match x with
  | .bad => K .bad
  | .d x => forceD x fun x => K (.d x)
  | .row k => K (.row k)
  | .ptr k off => K (.ptr k off)
  | .eptr k sz i off => K (.eptr k sz i off)
  | .dptr cs => forceList forceD cs fun cs => K (.dptr cs)
  | .pptr cs => forceList forceD cs fun cs => K (.pptr cs)
  | .mp k => K (.mp k)
  | .sub k sz lo hi => K (.sub k sz lo hi)
  | y => K y
theorem force0_iff {x : LV} {K : LV → Prop} (h : force0 x K) : K x := by
  cases x with
  | bad => exact h
  | d x => exact forceD_iff (K := fun x => K (.d x)) h
  | dptr cs => exact forceList_iff (K := fun cs => K (.dptr cs)) (fun _ _ => forceD_iff) h
  | pptr cs => exact forceList_iff (K := fun cs => K (.pptr cs)) (fun _ _ => forceD_iff) h
  | _ => exact h
def force1 (x : LV) (K : LV → Prop) : Prop := match x with
  | .agg cs => forceList force0 cs fun cs => K (.agg cs)
  | .fn f cs => forceList force0 cs fun cs => K (.fn f cs)
  | .bad => K .bad
  | y => force0 y K
theorem force1_iff {x : LV} {K : LV → Prop} (h : force1 x K) : K x := by
  cases x with
  | agg cs => exact forceList_iff (K := fun cs => K (.agg cs)) (fun _ _ => force0_iff) h
  | fn f cs => exact forceList_iff (K := fun cs => K (.fn f cs)) (fun _ _ => force0_iff) h
  | bad => exact h
  | d x => exact force0_iff h
  | row k => exact force0_iff h
  | ptr k off => exact force0_iff h
  | eptr k sz i off => exact force0_iff h
  | dptr cs => exact force0_iff h
  | tup cs => exact force0_iff h
  | mp k => exact force0_iff h
  | sub k sz lo hi => exact force0_iff h
  | pptr cs => exact force0_iff h
def forceLV (x : LV) (K : LV → Prop) : Prop := match x with
  | .tup cs => forceList force1 cs fun cs => K (.tup cs)
  | .agg cs => forceList force1 cs fun cs => K (.agg cs)
  | .bad => K .bad
  | y => force1 y K
theorem forceLV_iff {x : LV} {K : LV → Prop} (h : forceLV x K) : K x := by
  cases x with
  | tup cs => exact forceList_iff (K := fun cs => K (.tup cs)) (fun _ _ => force1_iff) h
  | agg cs => exact forceList_iff (K := fun cs => K (.agg cs)) (fun _ _ => force1_iff) h
  | bad => exact h
  | d x => exact force1_iff h
  | row k => exact force1_iff h
  | ptr k off => exact force1_iff h
  | eptr k sz i off => exact force1_iff h
  | dptr cs => exact force1_iff h
  | fn f cs => exact force1_iff h
  | mp k => exact force1_iff h
  | sub k sz lo hi => exact force1_iff h
  | pptr cs => exact force1_iff h
theorem forceVal_mk {x : Value} {K : Value → Prop} (h : K x) : forceVal x K := by cases x <;> exact h
theorem forceD_mk {x : D} {K : D → Prop} (h : K x) : forceD x K := by
  cases x with
  | v x => exact forceVal_mk (K := fun x => K (.v x)) h
  | l n f => exact h
theorem forceList_mk {α : Type} {f : α → (α → Prop) → Prop} (hf : ∀ x K, K x → f x K) : ∀ {xs : List α} {K : List α → Prop}, K xs → forceList f xs K
  | [], K, h => h
  | x :: xs, K, h => hf _ _ (forceList_mk (K := fun xs' => K (x :: xs')) hf h)
theorem force0_mk {x : LV} {K : LV → Prop} (h : K x) : force0 x K := by
  cases x with
  | bad => exact h
  | d x => exact forceD_mk (K := fun x => K (.d x)) h
  | dptr cs => exact forceList_mk (K := fun cs => K (.dptr cs)) (fun _ _ => forceD_mk) h
  | pptr cs => exact forceList_mk (K := fun cs => K (.pptr cs)) (fun _ _ => forceD_mk) h
  | _ => exact h
theorem force1_mk {x : LV} {K : LV → Prop} (h : K x) : force1 x K := by
  cases x with
  | agg cs => exact forceList_mk (K := fun cs => K (.agg cs)) (fun _ _ => force0_mk) h
  | fn f cs => exact forceList_mk (K := fun cs => K (.fn f cs)) (fun _ _ => force0_mk) h
  | bad => exact h
  | d x => exact force0_mk h
  | row k => exact force0_mk h
  | ptr k off => exact force0_mk h
  | eptr k sz i off => exact force0_mk h
  | dptr cs => exact force0_mk h
  | tup cs => exact force0_mk h
  | mp k => exact force0_mk h
  | sub k sz lo hi => exact force0_mk h
  | pptr cs => exact force0_mk h
theorem forceLV_mk {x : LV} {K : LV → Prop} (h : K x) : forceLV x K := by
  cases x with
  | tup cs => exact forceList_mk (K := fun cs => K (.tup cs)) (fun _ _ => force1_mk) h
  | agg cs => exact forceList_mk (K := fun cs => K (.agg cs)) (fun _ _ => force1_mk) h
  | bad => exact h
  | d x => exact force1_mk h
  | row k => exact force1_mk h
  | ptr k off => exact force1_mk h
  | eptr k sz i off => exact force1_mk h
  | dptr cs => exact force1_mk h
  | fn f cs => exact force1_mk h
  | mp k => exact force1_mk h
  | sub k sz lo hi => exact force1_mk h
  | pptr cs => exact force1_mk h
def forceE (x : Ent) (K : Ent → Prop) : Prop := match x with
  | .box t cs => forceList force1 cs fun cs => K (.box t cs)
  | .row e sz n f => K (.row e sz n f)
  | .map t f => K (.map t f)
  | .nest eo ei sz n L f ov => K (.nest eo ei sz n L f ov)
theorem forceE_iff {x : Ent} {K : Ent → Prop} (h : forceE x K) : K x := by
  cases x with
  | box t cs => exact forceList_iff (K := fun cs => K (.box t cs)) (fun _ _ => force1_iff) h
  | row e sz n f => exact h
  | map t f => exact h
  | nest eo ei sz n L f ov => exact h

def frL : List (Nat × LV) → Nat → LV
  | [], _ => .bad
  | (a, x) :: r, i => bif Nat.beq i a then x else frL r i
def hpL : List (Nat × Ent) → Nat → Option Ent
  | [], _ => none
  | (a, x) :: r, i => bif Nat.beq i a then some x else hpL r i


def forceHp (s : LS) : List Nat → List (Nat × Ent) → (List (Nat × Ent) → Prop) → Prop
  | [], acc, K => K acc
  | k :: ks, acc, K => match s.hp k with
    | some e => forceE e fun e => forceHp s ks ((k, e) :: acc) K
    | none => forceHp s ks acc K
def overH (hl : List (Nat × Ent)) (hp : Nat → Option Ent) (k : Nat) : Option Ent := match hpL hl k with
  | some e => some e
  | none => hp k
/-- a state, one place and some things of it written out -/
def forceS (dst : Option Tmp) (ks : List Nat) (s : LS) (K : LS → Prop) : Prop := match dst with
  | some d => forceLV (s.fr d) fun v => match ks with
    | [] => K ⟨upd s.fr d v, s.hp, s.nx, s.lo⟩
    | ks => forceHp s ks [] fun hl => K ⟨upd s.fr d v, overH hl s.hp, s.nx, s.lo⟩
  | none => match ks with
    | [] => K s
    | ks => forceHp s ks [] fun hl => K ⟨s.fr, overH hl s.hp, s.nx, s.lo⟩
theorem forceHp_spec {s : LS} : ∀ {ks : List Nat} {acc : List (Nat × Ent)} {K : List (Nat × Ent) → Prop}, forceHp s ks acc K → (∀ k e, hpL acc k = some e → s.hp k = some e) → ∃ hl, K hl ∧ ∀ k e, hpL hl k = some e → s.hp k = some e
  | [], acc, K, h, ha => ⟨acc, h, ha⟩
  | k :: ks, acc, K, h, ha => by
    simp only [forceHp] at h
    split at h
    · rename_i e he
      have h := forceE_iff h
      refine forceHp_spec h (fun i e' hi => ?_)
      simp only [hpL] at hi
      cases hb : Nat.beq i k with
      | true =>
        obtain rfl : i = k := by simpa using hb
        rw [hb, cond_true] at hi
        rw [← hi]; exact he
      | false =>
        rw [hb, cond_false] at hi
        exact ha i e' hi
    · exact forceHp_spec h ha
theorem upd_self {f : Nat → LV} {d : Nat} : upd f d (f d) = f := by
  funext i
  rw [upd_eq]
  split
  · rename_i e; rw [e]
  · rfl
theorem overH_eq {hl : List (Nat × Ent)} {hp : Nat → Option Ent} (h : ∀ k e, hpL hl k = some e → hp k = some e) : overH hl hp = hp := by
  funext k
  unfold overH
  cases hk : hpL hl k with
  | none => rfl
  | some e => exact (h k e hk).symm
theorem forceS_iff {dst : Option Tmp} {ks : List Nat} {s : LS} {K : LS → Prop} (h : forceS dst ks s K) : K s := by
  have hz : ∀ k e, hpL [] k = some e → s.hp k = some e := fun k e h => by simp [hpL] at h
  unfold forceS at h
  split at h
  · rename_i d
    have h := forceLV_iff h
    split at h
    · rw [upd_self] at h; exact h
    · obtain ⟨hl, h, h2⟩ := forceHp_spec h hz
      rw [upd_self, overH_eq h2] at h; exact h
  · split at h
    · exact h
    · obtain ⟨hl, h, h2⟩ := forceHp_spec h hz
      rw [overH_eq h2] at h; exact h

def isIn (X : List Nat) (k : Nat) : Bool := X.any (Nat.beq k)
theorem isIn_iff {X : List Nat} {k : Nat} : isIn X k = true ↔ k ∈ X := by
  simp [isIn, List.any_eq_true]
def keys0 : LV → List Nat
  | .row k => [k]
  | .ptr k _ => [k]
  | .eptr k _ _ _ => [k]
  | .mp k => [k]
  | .sub k _ _ _ => [k]
  | _ => []
def keysA : LV → List Nat
  | .agg cs => cs.flatMap keys0
  | .fn _ cs => cs.flatMap keys0
  | x => keys0 x
def keysV : LV → List Nat
  | .tup cs => cs.flatMap keysA
  | .agg cs => cs.flatMap keysA
  | x => keysA x
def closeK (s : LS) : Nat → List Nat → List Nat → List Nat
  | 0, _, seen => seen
  | _ + 1, [], seen => seen
  | n + 1, k :: todo, seen => bif isIn seen k then closeK s n todo seen else match s.hp k with
    | some (.box _ cs) => closeK s n (cs.flatMap keysV ++ todo) (k :: seen)
    | some (.nest _ _ _ _ _ _ ov) => closeK s n (holeKeys ov ++ todo) (k :: seen)
    | some _ => closeK s n todo (k :: seen)
    | none => closeK s n todo seen
def rootsOf : List (Nat × LV) → List Nat
  | [] => []
  | (_, x) :: r => keysV x ++ rootsOf r
/-- places of the frame, written out -/
def forceFr (s : LS) : List Nat → List (Nat × LV) → (List (Nat × LV) → Prop) → Prop
  | [], acc, K => K acc
  | t :: ts, acc, K => forceLV (s.fr t) fun x => forceFr s ts ((t, x) :: acc) K
def lookF : List (Nat × LV) → Nat → Option LV
  | [], _ => none
  | (a, x) :: r, i => bif Nat.beq i a then some x else lookF r i
def overF (fl : List (Nat × LV)) (fr : Nat → LV) (i : Nat) : LV := match lookF fl i with
  | some x => x
  | none => fr i
def dedup : List Nat → List Nat → List Nat
  | [], acc => acc
  | x :: xs, acc => bif isIn acc x then dedup xs acc else dedup xs (x :: acc)
/-- a state, what is needed of it written out -/
def forceN (ts : List Nat) (s : LS) (K : LS → Prop) : Prop := match ts with
  | [] => K s
  | t :: ts => forceFr s (dedup (t :: ts) []) [] fun fl => forceHp s (closeK s 300 (rootsOf fl) []) [] fun hl => K ⟨overF fl s.fr, overH hl s.hp, s.nx, s.lo⟩
theorem forceFr_spec {s : LS} : ∀ {ts : List Nat} {acc : List (Nat × LV)} {K : List (Nat × LV) → Prop}, forceFr s ts acc K → (∀ i x, lookF acc i = some x → s.fr i = x) → ∃ fl, K fl ∧ ∀ i x, lookF fl i = some x → s.fr i = x
  | [], acc, K, h, ha => ⟨acc, h, ha⟩
  | t :: ts, acc, K, h, ha => by
    have h := forceLV_iff h
    refine forceFr_spec h (fun i x hi => ?_)
    simp only [lookF] at hi
    cases hb : Nat.beq i t with
    | true =>
      obtain rfl : i = t := by simpa using hb
      rw [hb, cond_true] at hi
      exact Option.some.inj hi
    | false =>
      rw [hb, cond_false] at hi
      exact ha i x hi
theorem overF_eq {fl : List (Nat × LV)} {fr : Nat → LV} (h : ∀ i x, lookF fl i = some x → fr i = x) : overF fl fr = fr := by
  funext i
  unfold overF
  cases hk : lookF fl i with
  | none => rfl
  | some x => exact (h i x hk).symm
theorem forceN_iff {ts : List Nat} {s : LS} {K : LS → Prop} (h : forceN ts s K) : K s := by
  unfold forceN at h
  split at h
  · exact h
  · obtain ⟨fl, h, h1⟩ := forceFr_spec h (fun i x h => by simp [lookF] at h)
    obtain ⟨hl, h, h2⟩ := forceHp_spec h (fun k e h => by simp [hpL] at h)
    rw [overF_eq h1, overH_eq h2] at h
    exact h
end Go.Proofs.YtojaakpnpdnbhaaGreatDoor.L
