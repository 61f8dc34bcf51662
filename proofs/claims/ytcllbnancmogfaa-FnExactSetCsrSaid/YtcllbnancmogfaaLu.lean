/- States are put into a small form: values forced, what is not needed forgotten. -/
import Derived.Test.YtcllbnancmogfaaLn
set_option linter.unusedVariables false
set_option linter.unusedSimpArgs false
namespace Go.Proofs.Ytcllbnancmogfaa.L
open Go.RowKit

def keys0 : LV → List Nat
  | .row k => [k]
  | .ptr k _ => [k]
  | .eptr k _ _ _ => [k]
  | _ => []
def keysA : LV → List Nat
  | .agg cs => cs.flatMap keys0
  | .fn _ cs => cs.flatMap keys0
  | x => keys0 x
def keysV : LV → List Nat
  | .tup cs => cs.flatMap keysA
  | .agg cs => cs.flatMap keysA
  | x => keysA x
def closeK (s : LS) : Nat → List Nat → List Nat → List Nat
  | 0, _, seen => seen
  | _ + 1, [], seen => seen
  | n + 1, k :: todo, seen => bif isIn seen k then closeK s n todo seen else match s.hp k with
    | some (.box _ cs) => closeK s n (cs.flatMap keysV ++ todo) (k :: seen)
    | some _ => closeK s n todo (k :: seen)
    | none => closeK s n todo seen

/-- the frame's places that are needed -/
def normFr (s : LS) : List Nat → List (Nat × LV) → (List (Nat × LV) → Prop) → Prop
  | [], acc, K => K acc
  | t :: ts, acc, K => forceLV (s.fr t) fun x => normFr s ts ((t, x) :: acc) K
def normHp (s : LS) : List Nat → List (Nat × Ent) → (List (Nat × Ent) → Prop) → Prop
  | [], acc, K => K acc
  | k :: ks, acc, K => match s.hp k with
    | some e => forceE e fun e => normHp s ks ((k, e) :: acc) K
    | none => normHp s ks acc K
def rootsOf : List (Nat × LV) → List Nat
  | [] => []
  | (_, x) :: r => keysV x ++ rootsOf r
def norm (ts : List Nat) (nx lo : Nat) (s : LS) (K : LS → Prop) : Prop :=
  normFr s ts [] fun fl => normHp s (closeK s 300 (rootsOf fl ++ List.range lo) []) [] fun hl => K ⟨frL fl, hpL hl, nx, lo⟩

/-- less is known -/
structure Less (s t : LS) : Prop where
  fr : ∀ i, t.fr i = s.fr i ∨ t.fr i = .bad
  hp : ∀ k e, t.hp k = some e → s.hp k = some e
  nx : t.nx = s.nx
  lo : t.lo = s.lo

theorem normFr_spec {s : LS} : ∀ {ts : List Nat} {acc : List (Nat × LV)} {K : List (Nat × LV) → Prop}, normFr s ts acc K → (∀ i, frL acc i = s.fr i ∨ frL acc i = .bad) → ∃ fl, K fl ∧ ∀ i, frL fl i = s.fr i ∨ frL fl i = .bad
  | [], acc, K, h, ha => ⟨acc, h, ha⟩
  | t :: ts, acc, K, h, ha => by
    have h := forceLV_iff h
    refine normFr_spec h (fun i => ?_)
    simp only [frL]
    cases hb : Nat.beq i t with
    | true => obtain rfl : i = t := by simpa using hb
              exact .inl rfl
    | false => exact ha i
theorem normHp_spec {s : LS} : ∀ {ks : List Nat} {acc : List (Nat × Ent)} {K : List (Nat × Ent) → Prop}, normHp s ks acc K → (∀ k e, hpL acc k = some e → s.hp k = some e) → ∃ hl, K hl ∧ ∀ k e, hpL hl k = some e → s.hp k = some e
  | [], acc, K, h, ha => ⟨acc, h, ha⟩
  | k :: ks, acc, K, h, ha => by
    simp only [normHp] at h
    split at h
    · rename_i e he
      have h := forceE_iff h
      refine normHp_spec h (fun i e' hi => ?_)
      simp only [hpL] at hi
      cases hb : Nat.beq i k with
      | true =>
        obtain rfl : i = k := by simpa using hb
        rw [hb, cond_true] at hi
        rw [← hi]; exact he
      | false =>
        rw [hb, cond_false] at hi
        exact ha i e' hi
    · exact normHp_spec h ha
theorem norm_spec {ts : List Nat} {nx lo : Nat} {s : LS} {K : LS → Prop} (h : norm ts nx lo s K) (hnx : s.nx = nx) (hlo : s.lo = lo) : ∃ t, K t ∧ Less s t := by
  obtain ⟨fl, h, h1⟩ := normFr_spec h (fun i => .inr rfl)
  obtain ⟨hl, h, h2⟩ := normHp_spec h (fun k e hk => by simp [hpL] at hk)
  exact ⟨_, h, h1, h2, hnx.symm, hlo.symm⟩

theorem Rel.of_less {O : Nat → Prop} {nt : Nat} {ρ : Nat → Option Value} {I : Nat → Prop} {s t : LS} {a : Act} {w : World} (h : Rel O nt ρ I s a w) (hl : Less s t) : Rel O nt ρ I t a w :=
  ⟨fun i => by rcases hl.fr i with e | e <;> rw [e]; exact h.fr i; exact .bad _, fun k e he => h.hp k e (hl.hp k e he), fun k e v g he => h.ow k e v g (hl.hp k e he),
   fun k k' e e' v v' g he he' => h.ds k k' e e' v v' g (hl.hp k e he) (hl.hp k' e' he'), h.lt, h.df, h.sz⟩

def lookA : List (Nat × List Nat) → Nat → List Nat
  | [], _ => []
  | (a, x) :: r, i => bif Nat.beq i a then x else lookA r i

def lwp (P : Program) (T : TT) (A : List (Nat × List Nat)) : Code → LS → (Exit → LS → Prop) → Prop
  | .skip, s, Q => Q .normal s
  | .region id ops draw, ⟨fr, hp, nx, lo⟩, Q => match draw with
    | true => opsD P T ops nx 0 ops.toList ⟨fr, hp, nx + 4096, lo⟩ [] (norm (lookA A id) (nx + 4096) lo · (Q .normal))
    | false => opsK P T false ops nx 0 ops.toList ⟨fr, hp, nx + 4096, lo⟩ (norm (lookA A id) (nx + 4096) lo · (Q .normal))
  | .seq a b, s, Q => lwp P T A a s fun e s' => match e with
    | .normal => lwp P T A b s' Q
    | e => Q e s'
  | .cond c a b, s, Q => match leval s c with
    | .d (.v (.bool t)) => bsplit t (lwp P T A a s Q) (lwp P T A b s Q)
    | _ => False
  | .block id c, s, Q => lwp P T A c s fun e s' => match e with
    | .exit i => bif Nat.beq i id then Q .normal s' else Q (.exit i) s'
    | e => Q e s'
  | .loop c, s, Q => ∃ (σ : Type) (J : σ → LS) (μ : σ → Nat) (x : σ), Le s (J x) ∧ ∀ x, lwp P T A c (J x) fun e s' => match e with
    | .normal => ∃ x', Le s' (J x') ∧ μ x' < μ x
    | e => Q e s'
  | .exit id, s, Q => Q (.exit id) s
  | .ret, s, Q => Q .ret s
  | _, _, _ => False

end Go.Proofs.Ytcllbnancmogfaa.L
