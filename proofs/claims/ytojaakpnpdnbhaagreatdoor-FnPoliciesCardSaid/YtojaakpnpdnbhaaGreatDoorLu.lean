/- States are put into a small form: values forced, what is not needed forgotten. -/
import Derived.Test.YtojaakpnpdnbhaaGreatDoorLn
set_option linter.unusedVariables false
set_option linter.unusedSimpArgs false
namespace Go.Proofs.YtojaakpnpdnbhaaGreatDoor.L
open Go.RowKit

/-- the frame's places that are needed -/
def normFr (s : LS) : List Nat → List (Nat × LV) → (List (Nat × LV) → Prop) → Prop
  | [], acc, K => K acc
  | t :: ts, acc, K => forceLV (s.fr t) fun x => normFr s ts ((t, x) :: acc) K
def normHp (s : LS) : List Nat → List (Nat × Ent) → (List (Nat × Ent) → Prop) → Prop
  | [], acc, K => K acc
  | k :: ks, acc, K => match s.hp k with
    | some e => forceE e fun e => normHp s ks ((k, e) :: acc) K
    | none => normHp s ks acc K
def norm (ts : List Nat) (nx lo : Nat) (s : LS) (K : LS → Prop) : Prop :=
  normFr s ts [] fun fl => normHp s (closeK s 300 (rootsOf fl ++ List.range lo) []) [] fun hl => K ⟨frL fl, hpL hl, nx, lo⟩

/-- less is known -/
structure Less (s t : LS) : Prop where
  fr : ∀ i, t.fr i = s.fr i ∨ t.fr i = .bad
  hp : ∀ k e, t.hp k = some e → s.hp k = some e
  nx : t.nx = s.nx
  lo : t.lo = s.lo

theorem normFr_spec {s : LS} : ∀ {ts : List Nat} {acc : List (Nat × LV)} {K : List (Nat × LV) → Prop}, normFr s ts acc K → (∀ i, frL acc i = s.fr i ∨ frL acc i = .bad) → ∃ fl, K fl ∧ ∀ i, frL fl i = s.fr i ∨ frL fl i = .bad
  | [], acc, K, h, ha => ⟨acc, h, ha⟩
  | t :: ts, acc, K, h, ha => by
    have h := forceLV_iff h
    refine normFr_spec h (fun i => ?_)
    simp only [frL]
    cases hb : Nat.beq i t with
    | true => obtain rfl : i = t := by simpa using hb
              exact .inl rfl
    | false => exact ha i
theorem normHp_spec {s : LS} : ∀ {ks : List Nat} {acc : List (Nat × Ent)} {K : List (Nat × Ent) → Prop}, normHp s ks acc K → (∀ k e, hpL acc k = some e → s.hp k = some e) → ∃ hl, K hl ∧ ∀ k e, hpL hl k = some e → s.hp k = some e
  | [], acc, K, h, ha => ⟨acc, h, ha⟩
  | k :: ks, acc, K, h, ha => by
    simp only [normHp] at h
    split at h
    · rename_i e he
      have h := forceE_iff h
      refine normHp_spec h (fun i e' hi => ?_)
      simp only [hpL] at hi
      cases hb : Nat.beq i k with
      | true =>
        obtain rfl : i = k := by simpa using hb
        rw [hb, cond_true] at hi
        rw [← hi]; exact he
      | false =>
        rw [hb, cond_false] at hi
        exact ha i e' hi
    · exact normHp_spec h ha
theorem norm_spec {ts : List Nat} {nx lo : Nat} {s : LS} {K : LS → Prop} (h : norm ts nx lo s K) (hnx : s.nx = nx) (hlo : s.lo = lo) : ∃ t, K t ∧ Less s t := by
  obtain ⟨fl, h, h1⟩ := normFr_spec h (fun i => .inr rfl)
  obtain ⟨hl, h, h2⟩ := normHp_spec h (fun k e hk => by simp [hpL] at hk)
  exact ⟨_, h, h1, h2, hnx.symm, hlo.symm⟩

theorem Rel.of_less {O : Nat → Prop} {nt : Nat} {ρ : Nat → Option Value} {I : Nat → Prop} {s t : LS} {a : Act} {w : World} (h : Rel O nt ρ I s a w) (hl : Less s t) : Rel O nt ρ I t a w :=
  ⟨fun i => by rcases hl.fr i with e | e <;> rw [e]; exact h.fr i; exact .bad _, fun k e he => h.hp k e (hl.hp k e he), fun k e v g he => h.ow k e v g (hl.hp k e he),
   fun k k' e e' v v' g he he' => h.ds k k' e e' v v' g (hl.hp k e he) (hl.hp k' e' he'), h.lt, h.df, h.sz, h.gl⟩

def lookA : List (Nat × List Nat) → Nat → List Nat
  | [], _ => []
  | (a, x) :: r, i => bif Nat.beq i a then x else lookA r i

/-- statements: what is to hold where they end, and where they are left otherwise -/
def lwpN (P : Program) (T : TT) (A : List (Nat × List Nat)) (c : Code) : LS → (LS → Prop) → (Exit → LS → Prop) → Prop :=
  Code.rec (motive := fun _ => LS → (LS → Prop) → (Exit → LS → Prop) → Prop)
    (fun s N X => N s)
    (fun id ops draw s N X => match s with
      | ⟨fr, hp, nx, lo⟩ => match draw with
        | true => opsD P T ops nx ops.toList 0 ⟨fr, hp, nx + 4096, lo⟩ [] (norm (lookA A id) (nx + 4096) lo · N)
        | false => opsK P T false ops nx ops.toList 0 ⟨fr, hp, nx + 4096, lo⟩ (norm (lookA A id) (nx + 4096) lo · N))
    (fun _ _ fa fb s N X => fa s (fun s' => fb s' N X) X)
    (fun c _ _ fa fb s N X => match leval s c with
      | .d (.v (.bool t)) => bsplit t (fa s N X) (fb s N X)
      | _ => False)
    (fun id _ fc s N X => fc s N fun e s' => match e with
      | .exit i => bif Nat.beq i id then N s' else X (.exit i) s'
      | e => X e s')
    (fun _ fc s N X => ∃ (σ : Type) (J : σ → LS) (μ : σ → Nat) (x : σ), Le s (J x) ∧ ∀ x, fc (J x) (fun s' => ∃ x', Le s' (J x') ∧ μ x' < μ x) X)
    (fun _ _ _ _ _ _ s N X => False)
    (fun id s N X => X (.exit id) s)
    (fun _ _ s N X => False)
    (fun _ s N X => False)
    (fun _ s N X => False)
    (fun s N X => X .ret s)
    (fun _ s N X => False)
    c
section
variable {P : Program} {T : TT} {A : List (Nat × List Nat)} {N : LS → Prop} {X : Exit → LS → Prop}
theorem lwpN_region (id : Nat) (ops : Array Oper) (draw : Bool) (fr : Nat → LV) (hp : Nat → Option Ent) (nx lo : Nat) : lwpN P T A (.region id ops draw) ⟨fr, hp, nx, lo⟩ N X = match draw with
    | true => opsD P T ops nx ops.toList 0 ⟨fr, hp, nx + 4096, lo⟩ [] (norm (lookA A id) (nx + 4096) lo · N)
    | false => opsK P T false ops nx ops.toList 0 ⟨fr, hp, nx + 4096, lo⟩ (norm (lookA A id) (nx + 4096) lo · N) := by cases draw <;> rfl
theorem lwpN_cond (c : Operand) (a b : Code) (s : LS) : lwpN P T A (.cond c a b) s N X = match leval s c with
    | .d (.v (.bool t)) => bsplit t (lwpN P T A a s N X) (lwpN P T A b s N X)
    | _ => False := rfl
end
def comb (N : LS → Prop) (X : Exit → LS → Prop) (e : Exit) (s : LS) : Prop := match e with
  | .normal => N s
  | e => X e s
def lwp (P : Program) (T : TT) (A : List (Nat × List Nat)) (c : Code) (s : LS) (Q : Exit → LS → Prop) : Prop := lwpN P T A c s (Q .normal) Q

end Go.Proofs.YtojaakpnpdnbhaaGreatDoor.L
