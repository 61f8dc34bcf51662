/- Statements in the symbolic logic: operations in their order, branches, blocks, loops; functions. -/
import Derived.Test.YtojaakpnpdnbhaaGreatDoorLw
import Derived.Test.YtojaakpnpdnbhaaGreatDoorMb
set_option linter.unusedVariables false
set_option linter.unusedSimpArgs false
namespace Go.Proofs.YtojaakpnpdnbhaaGreatDoor.L
open Go.RowKit

def callOf (o : Oper) (s : LS) : Option (FuncId × List LV) := match o.op with
  | .call { callee := .value f, args, .. } => match leval s f with
    | .fn g caps => some (g, args.toList.map (leval s) ++ caps)
    | _ => none
  | _ => none

def isCall (o : Oper) : Bool := match o.op with
  | .call { callee := .value _, .. } => true
  | _ => false

/-- operations that ask nothing -/
def opT (o : Oper) (s : LS) : Bool := match o.op with
  | .move _ | .assign _ | .pick _ _ _ | .alloc _ | .box _ _ | .build _ _ | .buildSlice _ _ _ | .nilCheck _ | .fieldAddr _ _ _ | .field _ _ _ | .makeFunc _ _ _ | .extract _ _ | .unOp _ _ _ | .convert _ _ _ => true
  | .call { callee := .builtin .len, .. } | .call { callee := .builtin .max, .. } | .call { callee := .builtin .min, .. } => true
  | .load _ x | .store _ x _ => match leval s x with
    | .eptr _ _ _ _ => false
    | _ => true
  | .binOp op _ x _ _ => match op with
    | .quo | .rem | .shl | .shr => false
    | .add => match leval s x with
      | .d (.v (.int _ _)) => true
      | _ => false
    | _ => true
  | _ => false

/-- both ways of a test -/
def bsplit (b : Bool) (A B : Prop) : Prop := (b = true → A) ∧ (b = false → B)
theorem bsplit_intro {b : Bool} {A B : Prop} (h1 : b = true → A) (h2 : b = false → B) : bsplit b A B := ⟨h1, h2⟩
theorem bsplit_elim {b : Bool} {A B : Prop} (h : bsplit b A B) : (b = true → A) ∧ (b = false → B) := h
theorem bsplit_true {A B : Prop} (h : A) : bsplit true A B := ⟨fun _ => h, fun h => nomatch h⟩
theorem bsplit_false {A B : Prop} (h : B) : bsplit false A B := ⟨fun h => (nomatch h), fun _ => h⟩
theorem bsplit_of_true {b : Bool} {A B : Prop} (hb : b = true) (h : A) : bsplit b A B := by subst hb; exact bsplit_true h
theorem bsplit_of_false {b : Bool} {A B : Prop} (hb : b = false) (h : B) : bsplit b A B := by subst hb; exact bsplit_false h
/-- what is asked, and what follows -/
def ask (p K : Prop) : Prop := p ∧ K
theorem ask_intro {p K : Prop} (h1 : p) (h2 : K) : ask p K := ⟨h1, h2⟩
theorem ask_elim {p K : Prop} (h : ask p K) : p ∧ K := h
def LS.know (s : LS) (t : Nat) (b : Bool) : LS := { s with fr := upd s.fr t (.d (.v (.bool b))) }

/-- a slice compared to nil: whether it is equal, how long it is -/
def nilT (T : TT) (o : Oper) (s : LS) : Option (Bool × Nat) := match o.op with
  | .binOp op t x (.const (.slice none 0 0)) _ => match T t with
    | some ti => match ti.k with
      | .slice _ => match slLen s (leval s x) with
        | some n => match op with
          | .eql => some (true, n)
          | .neq => some (false, n)
          | _ => none
        | none => none
      | _ => none
    | none => none
  | _ => none

/-- a row that is read as data from then on -/
def frz1 (s : LS) (x : Operand) : LS := match x with
  | .tmp t => match s.fr t with
    | .row k => match s.hp k with
      | some (.row _ _ n f) => { s with fr := upd s.fr t (.d (.l n f)), hp := upd s.hp k none }
      | _ => s
    | _ => s
  | _ => s
def frzL (s : LS) : List (Nat × Operand) → LS
  | [] => s
  | (_, x) :: r => frzL (frz1 s x) r
def frzO (o : Oper) (s : LS) : LS := match o.op with
  | .slice _ x _ _ _ => frz1 s x
  | .store _ x y => match leval s x with
    | .eptr _ _ _ _ => frz1 s y
    | _ => s
  | .buildSlice _ _ parts => frzL s parts.toList
  | _ => s

/-- a part of a row that is copied to or from, appended to in its place, or cleared: it stays a part of that row -/
def isTmp (d : Nat) : Operand → Bool
  | .tmp t => Nat.beq t d
  | _ => false
def cutOf (ops : List Oper) (d : Nat) : Bool := ops.any fun o => match o.op, o.dst with
  | .slice _ _ _ _ _, some d' => Nat.beq d d'
  | _, _ => false
def usesCut (ops : List Oper) (d : Nat) (o : Oper) : Bool := match o.op with
  | .call { callee := .builtin .copy, args, .. } => args.toList.any (isTmp d)
  | .call { callee := .builtin .clear, args, .. } => args.toList.any (isTmp d)
  | .call { callee := .builtin .append, args, .. } => match args.toList with
    | .tmp a :: rest => cutOf ops a && (Nat.beq a d || rest.any (isTmp d))
    | _ => false
  | _ => false
def lazyOf (ops : Array Oper) (o : Oper) : Bool := match o.op, o.dst with
  | .slice _ _ _ _ _, some d => ops.toList.any (usesCut ops.toList d) || cutTab.any fun p => Nat.beq p.1 o.type && Nat.beq p.2 d
  | _, _ => false

def opK (P : Program) (T : TT) (lz draw : Bool) (kb : Nat) (o : Oper) (s : LS) (K : LS → Prop) : Prop := match isCall o with
  | true => match callOf o s with
    | some (g, args) => forceList forceLV args fun args => (∃ r lvs, mapO (snap s) args = some lvs ∧ FnOK P g lvs r ∧ (Nat.ble r.leaves.length 32 && (!draw || !r.leaves.any isSh)) = true ∧ K (callS s kb o.dst args r)) ∨
        (draw = false ∧ InlOK P g args s kb fun lv s' => K (s'.put o.dst lv))
    | none => False
  | false => match nilT T o s with
    | some (b, n) => ∀ r : Bool, (0 < n → r = !b) → K (s.put o.dst (.d (.v (.bool r))))
    | none => match opX P T lz kb o s with
      | some (p, s') => ask p (K s')
      | none => match opF T kb o (frzO o s) with
        | some (p, s') => match opT o (frzO o s) with
          | true => K s'
          | false => ask p (K s')
        | none => False

/-- the things that an operation makes or writes -/
def topK : LV → List Nat
  | .row k => [k]
  | .ptr k _ => [k]
  | .eptr k _ _ _ => [k]
  | .mp k => [k]
  | .sub k _ _ _ => [k]
  | _ => []
def subK : LV → List Nat
  | .sub k _ _ _ => [k]
  | _ => []
def fkeys (kb : Nat) (o : Oper) (s : LS) : List Nat := match o.op with
  | .alloc _ | .box _ _ | .buildSlice _ _ _ | .makeSlice _ _ _ | .makeMap _ _ => [kb]
  | .mapUpdate _ x _ _ => topK (leval s x)
  | .call { callee := .builtin .append, args, .. } => kb :: (args.toList.take 1).flatMap fun x => subK (leval s x)
  | .call { callee := .builtin .copy, args, .. } => (args.toList.take 1).flatMap fun x => topK (leval s x)
  | .call { callee := .builtin .clear, args, .. } => args.toList.flatMap fun x => topK (leval s x)
  | .store _ x _ => topK (leval s x)
  | .load _ x => match leval s x with
    | .eptr k _ _ _ => match s.hp k with
      | some (.nest _ _ _ _ _ _ _) => [kb, k]
      | _ => []
    | _ => []
  | .call { callee := .value f, args, .. } => match leval s f with
    | .fn _ caps => (args.toList.map (leval s) ++ caps).flatMap (keysOf s)
    | _ => []
  | _ => []

/-- places that operations behind a call look at -/
def needs (ops : Array Oper) (o : Oper) (os : List Oper) : List Nat := match isCall o with
  | true => os.flatMap fun o => o.looksAt ops
  | false => []

def guardLV (ops : Array Oper) (s : LS) (g : Nat) : Option (Nat × Bool) := match ops[g]? with
  | some o => match o.dst with
    | some t => match s.fr t with
      | .d (.v (.bool b)) => some (t, b)
      | _ => none
    | none => none
  | none => none
def same (a b : Bool) : Bool := match a, b with
  | true, true | false, false => true
  | _, _ => false

/-- an operation on which a test rests was itself left out -/
def gone (ops : Array Oper) (s : LS) (g : Nat) : Bool := match ops[g]? with
  | some o => match o.dst with
    | some t => match s.fr t with
      | .d (.v (.tuple _)) => true
      | _ => false
    | none => false
  | none => false

def opsK (P : Program) (T : TT) (draw : Bool) (ops : Array Oper) (nx0 : Nat) (os : List Oper) : Nat → LS → (LS → Prop) → Prop :=
  List.rec (motive := fun _ => Nat → LS → (LS → Prop) → Prop) (fun _ s K => K s)
    (fun o os ih i s K => match o.guard with
    | none => opK P T (lazyOf ops o) draw (nx0 + 32 * i) o s fun s' => forceS o.dst (fkeys (nx0 + 32 * i) o s) s' fun s' => forceN (needs ops o os) s' fun s' => ih (i + 1) s' K
    | some (g, want) => match guardLV ops s g with
      | some (t, b) => bsplit b
          (match same true want with
            | true => opK P T (lazyOf ops o) draw (nx0 + 32 * i) o (s.know t true) fun s' => forceS o.dst (fkeys (nx0 + 32 * i) o (s.know t true)) s' fun s' => forceN (needs ops o os) s' fun s' => ih (i + 1) s' K
            | false => ih (i + 1) ((s.know t true).put o.dst (.d (.v (.tuple #[])))) K)
          (match same false want with
            | true => opK P T (lazyOf ops o) draw (nx0 + 32 * i) o (s.know t false) fun s' => forceS o.dst (fkeys (nx0 + 32 * i) o (s.know t false)) s' fun s' => forceN (needs ops o os) s' fun s' => ih (i + 1) s' K
            | false => ih (i + 1) ((s.know t false).put o.dst (.d (.v (.tuple #[])))) K)
      | none => match gone ops s g with
        | true => ih (i + 1) (s.put o.dst (.d (.v (.tuple #[])))) K
        | false => False) os
theorem opsK_cons (P : Program) (T : TT) (draw : Bool) (ops : Array Oper) (nx0 : Nat) (o : Oper) (os : List Oper) (i : Nat) (s : LS) (K : LS → Prop) : opsK P T draw ops nx0 (o :: os) i s K = match o.guard with
    | none => opK P T (lazyOf ops o) draw (nx0 + 32 * i) o s fun s' => forceS o.dst (fkeys (nx0 + 32 * i) o s) s' fun s' => forceN (needs ops o os) s' fun s' => opsK P T draw ops nx0 os (i + 1) s' K
    | some (g, want) => match guardLV ops s g with
      | some (t, b) => bsplit b
          (match same true want with
            | true => opK P T (lazyOf ops o) draw (nx0 + 32 * i) o (s.know t true) fun s' => forceS o.dst (fkeys (nx0 + 32 * i) o (s.know t true)) s' fun s' => forceN (needs ops o os) s' fun s' => opsK P T draw ops nx0 os (i + 1) s' K
            | false => opsK P T draw ops nx0 os (i + 1) ((s.know t true).put o.dst (.d (.v (.tuple #[])))) K)
          (match same false want with
            | true => opK P T (lazyOf ops o) draw (nx0 + 32 * i) o (s.know t false) fun s' => forceS o.dst (fkeys (nx0 + 32 * i) o (s.know t false)) s' fun s' => forceN (needs ops o os) s' fun s' => opsK P T draw ops nx0 os (i + 1) s' K
            | false => opsK P T draw ops nx0 os (i + 1) ((s.know t false).put o.dst (.d (.v (.tuple #[])))) K)
      | none => match gone ops s g with
        | true => opsK P T draw ops nx0 os (i + 1) (s.put o.dst (.d (.v (.tuple #[])))) K
        | false => False := rfl

/-- what is known of t is known of s, names from lo on turned -/
def Le (s t : LS) : Prop := t.lo = s.lo ∧ s.lo ≤ t.nx ∧ ∀ O nt ρ I a w, Rel O nt ρ I s a w → Fresh ρ s.nx → ∃ ρ' I', (∀ k, k < s.lo → ρ' k = ρ k) ∧ (∀ b, I b → I' b) ∧ (∀ b, I' b → I b ∨ O b) ∧ Rel O nt ρ' I' t a w ∧ Fresh ρ' t.nx

/-- what a way from one state to another keeps -/
structure Tr (O : Nat → Prop) (lo : Nat) (ρ : Nat → Option Value) (I : Nat → Prop) (w : World) (ρ' : Nat → Option Value) (I' : Nat → Prop) (w' : World) : Prop where
  names : ∀ k, k < lo → ρ' k = ρ k
  im : ∀ b, I b → I' b
  im' : ∀ b, I' b → I b ∨ O b
  keep : ∀ b, I b → w'.heap[b]? = w.heap[b]?
  step : Step O w w'
theorem Tr.refl (O : Nat → Prop) (lo : Nat) (ρ : Nat → Option Value) (I : Nat → Prop) (w : World) : Tr O lo ρ I w ρ I w := ⟨fun _ _ => rfl, fun _ h => h, fun _ h => .inl h, fun _ _ => rfl, Step.refl _ _⟩
theorem Tr.trans {O : Nat → Prop} {lo : Nat} {ρ ρ1 ρ2 : Nat → Option Value} {I I1 I2 : Nat → Prop} {w w1 w2 : World} (h : Tr O lo ρ I w ρ1 I1 w1) (k : Tr O lo ρ1 I1 w1 ρ2 I2 w2) : Tr O lo ρ I w ρ2 I2 w2 :=
  ⟨fun x hx => (k.names x hx).trans (h.names x hx), fun b hb => k.im b (h.im b hb), fun b hb => (k.im' b hb).elim (h.im' b) .inr, fun b hb => (k.keep b (h.im b hb)).trans (h.keep b hb), h.step.trans k.step⟩

section
variable {P : Program} {T : TT} {O : Nat → Prop} {nt : Nat} {ρ : Nat → Option Value} {I : Nat → Prop} {s : LS} {a : Act} {w : World} {kb : Nat} {o : Oper}

/-- all operations that are no calls of functions -/
theorem opF_sound (hT : TOk P T) {p : Prop} {s' : LS} (h : opF T kb o s = some (p, s')) (hp : p) (hR : Rel O nt ρ I s a w) (hd : ∀ d, o.dst = some d → d < nt) (hkb : ρ kb = none) (hO : ∀ g, w.heap.size ≤ g → O g) : Does P O nt ρ I kb o s s' a w := by
  cases ho : o.op with
  | move x => exact sound_move (.inl ho) h hR hd
  | assign x => exact sound_move (.inr ho) h hR hd
  | pick c x y => exact sound_pick ho h hR hd
  | alloc t => exact sound_alloc hT ho h hR hd hkb hO
  | box t x => exact sound_box ho h hR hd hkb hO
  | build t ps => exact sound_build hT ho h hR hd
  | buildSlice t n ps => exact sound_buildSlice hT ho h hR hd hkb hO
  | load t x => exact sound_load hT ho h hp hR hd
  | store t x y => exact sound_store hT ho h hp hR hd
  | nilCheck x => exact sound_nil ho h hR hd
  | binOp op t x y t' => exact sound_bin hT ho h hp hR hd
  | unOp op t x => exact sound_un ho h hR hd
  | convert t t' x => exact sound_convert hT ho h hR hd
  | makeFunc f first caps =>
    cases f with
    | func f => exact sound_makeFunc ho h hR hd
    | _ => unfold opF at h; simp [ho] at h
  | makeSlice t x y => exact sound_makeSlice hT ho h hp hR hd hkb hO
  | slice t x lo hi mx =>
    cases mx with
    | none => exact sound_slice hT ho h hp hR hd
    | some m => unfold opF at h; simp [ho] at h
  | fieldAddr t x j => exact sound_fieldAddr hT ho h hR hd
  | field t x j => exact sound_field hT ho h hR hd
  | indexAddr t x y => exact sound_indexAddr hT ho h hp hR hd
  | index t x y => exact sound_index hT ho h hp hR hd
  | extract x j => exact sound_extract ho h hR hd
  | call c =>
    obtain ⟨cal, args, ts⟩ := c
    cases cal with
    | builtin b =>
      cases b with
      | len => exact sound_len hT ho h hR hd
      | append => exact sound_append hT ho h hp hR hd hkb hO
      | max => exact sound_max ho h hR hd
      | min => exact sound_min ho h hR hd
      | _ => unfold opF at h; simp [ho] at h
    | _ => unfold opF at h; simp [ho] at h
  | _ => unfold opF at h; simp [ho] at h

theorem bin2_triv {tk : TK} {op : BinOp} {x y r : Value} {p : Prop} (h : bin2 tk op x y = some (p, r)) (h1 : op ≠ .quo) (h2 : op ≠ .rem) (h3 : op ≠ .shl) (h4 : op ≠ .shr) (h5 : op = .add → ∃ k n, x = .int k n) : p := by
  unfold bin2 at h
  split at h
  · split at h
    · exact absurd rfl h3
    · exact absurd rfl h4
    · split at h
      · cases op <;> simp only [Option.some.injEq, Prod.mk.injEq, reduceCtorEq] at h <;> first
          | (exact absurd rfl h1)
          | (exact absurd rfl h2)
          | (rw [← h.1]; trivial)
      · simp at h
  · split at h
    · obtain ⟨k, n, e⟩ := h5 rfl; simp at e
    · simp only [Option.some.injEq, Prod.mk.injEq] at h; rw [← h.1]; trivial
    · simp only [Option.some.injEq, Prod.mk.injEq] at h; rw [← h.1]; trivial
    · simp at h
  · split at h
    · split at h
      · simp only [Option.some.injEq, Prod.mk.injEq] at h; rw [← h.1]; trivial
      · simp only [Option.some.injEq, Prod.mk.injEq] at h; rw [← h.1]; trivial
      · simp at h
    · simp at h
  · simp at h

theorem opT_true {p : Prop} {s' : LS} (h : opF T kb o s = some (p, s')) (ht : opT o s = true) : p := by
  unfold opF at h
  unfold opT at ht
  cases ho : o.op with
  | binOp op t x y t' =>
    simp only [ho] at h ht
    split at h <;> (try (simp at h; done))
    split at h <;> (try (simp at h; done))
    rotate_left
    · split at h <;> (try (simp at h; done))
      obtain ⟨_, h⟩ := bif_some h
      split at h <;> (try (simp at h; done)) <;> (simp only [Option.some.injEq, Prod.mk.injEq] at h; rw [← h.1]; trivial)
    rename_i u v hlx hly
    split at h <;> (try (simp at h; done))
    rename_i p' r hb
    simp only [Option.some.injEq, Prod.mk.injEq] at h
    rw [← h.1]
    refine bin2_triv hb ?_ ?_ ?_ ?_ ?_
    · rintro rfl; simp at ht
    · rintro rfl; simp at ht
    · rintro rfl; simp at ht
    · rintro rfl; simp at ht
    · rintro rfl
      simp only at ht
      split at ht
      · rename_i k n hlx2
        rw [hlx] at hlx2
        simp only [LV.d.injEq, D.v.injEq] at hlx2
        exact ⟨_, _, hlx2⟩
      · simp at ht
  | load t x =>
    simp only [ho] at h ht
    split at ht
    · simp at ht
    · rename_i hne
      split at h <;> (try (simp at h; done))
      split at h <;> (try (simp at h; done))
      · split at h <;> (try (simp at h; done))
        split at h <;> (try (simp at h; done))
        simp only [Option.some.injEq, Prod.mk.injEq] at h; rw [← h.1]; trivial
      · split at h <;> (try (simp at h; done))
        simp only [Option.some.injEq, Prod.mk.injEq] at h; rw [← h.1]; trivial
      · rename_i hl
        exact absurd hl (hne _ _ _ _)
  | store t x y =>
    simp only [ho] at h ht
    split at ht
    · simp at ht
    · rename_i hne
      split at h <;> (try (simp at h; done))
      split at h <;> (try (simp at h; done))
      obtain ⟨_, h⟩ := bif_some h
      split at h <;> (try (simp at h; done))
      · split at h <;> (try (simp at h; done))
        obtain ⟨_, h⟩ := bif_some h
        simp only [Option.some.injEq, Prod.mk.injEq] at h; rw [← h.1]; trivial
      · rename_i hl
        exact absurd hl (hne _ _ _ _)
  | call c =>
    obtain ⟨cal, args, ts⟩ := c
    cases cal with
    | builtin b =>
      cases b with
      | len =>
        simp only [ho] at h
        split at h <;> (try (simp at h; done))
        split at h <;> (try (simp at h; done))
        split at h <;> (try (simp at h; done))
        · simp only [Option.some.injEq, Prod.mk.injEq] at h; rw [← h.1]; trivial
        · split at h <;> (try (simp at h; done))
          simp only [Option.some.injEq, Prod.mk.injEq] at h; rw [← h.1]; trivial
      | max =>
        simp only [ho] at h
        split at h <;> (try (simp at h; done))
        split at h <;> (try (simp at h; done))
        simp only [Option.some.injEq, Prod.mk.injEq] at h; rw [← h.1]; trivial
      | min =>
        simp only [ho] at h
        split at h <;> (try (simp at h; done))
        split at h <;> (try (simp at h; done))
        simp only [Option.some.injEq, Prod.mk.injEq] at h; rw [← h.1]; trivial
      | _ => simp [ho] at ht
    | _ => simp [ho] at ht
  | move | assign =>
    simp only [ho, Option.some.injEq, Prod.mk.injEq] at h; rw [← h.1]; trivial
  | pick =>
    simp only [ho] at h
    split at h <;> (try (simp at h; done))
    split at h <;> (try (simp at h; done))
    simp only [Option.some.injEq, Prod.mk.injEq] at h; rw [← h.1]; trivial
  | alloc | box =>
    simp only [ho] at h
    split at h <;> (try (simp at h; done))
    simp only [Option.some.injEq, Prod.mk.injEq] at h; rw [← h.1]; trivial
  | build =>
    simp only [ho] at h
    split at h <;> (try (simp at h; done))
    split at h <;> (try (simp at h; done))
    split at h <;> (try (simp at h; done))
    simp only [Option.some.injEq, Prod.mk.injEq] at h; rw [← h.1]; trivial
  | buildSlice =>
    simp only [ho] at h
    split at h <;> (try (simp at h; done))
    split at h <;> (try (simp at h; done))
    split at h <;> (try (simp at h; done))
    split at h <;> (try (simp at h; done))
    obtain ⟨_, h⟩ := bif_some h
    simp only [Option.some.injEq, Prod.mk.injEq] at h; rw [← h.1]; trivial
  | nilCheck =>
    simp only [ho] at h
    split at h <;> (try (simp at h; done)) <;> (simp only [Option.some.injEq, Prod.mk.injEq] at h; rw [← h.1]; trivial)
  | fieldAddr =>
    simp only [ho] at h
    split at h <;> (try (simp at h; done))
    split at h <;> (try (simp at h; done))
    split at h <;> (try (simp at h; done))
    rename_i off size ag hj
    cases hb : Nat.beq size 0 with
    | true => rw [hb] at h; simp at h
    | false =>
      rw [hb, cond_false] at h
      split at h <;> (try (simp at h; done))
      · simp only [Option.some.injEq, Prod.mk.injEq] at h; rw [← h.1]; trivial
      · simp only [Option.some.injEq, Prod.mk.injEq] at h; rw [← h.1]; trivial
      · obtain ⟨_, h⟩ := bif_some h
        simp only [Option.some.injEq, Prod.mk.injEq] at h; rw [← h.1]; trivial
  | field =>
    simp only [ho] at h
    split at h <;> (try (simp at h; done))
    split at h <;> (try (simp at h; done))
    split at h <;> (try (simp at h; done))
    split at h <;> (try (simp at h; done))
    obtain ⟨_, h⟩ := bif_some h
    split at h
    · simp only [Option.some.injEq, Prod.mk.injEq] at h; rw [← h.1]; trivial
    · split at h <;> (try (simp at h; done))
      simp only [Option.some.injEq, Prod.mk.injEq] at h; rw [← h.1]; trivial
  | makeFunc f first caps =>
    simp only [ho] at h
    split at h <;> (try (simp at h; done)) <;> (try (rename_i hh; simp at hh; done))
    obtain ⟨_, h⟩ := bif_some h
    simp only [Option.some.injEq, Prod.mk.injEq] at h; rw [← h.1]; trivial
  | extract =>
    simp only [ho] at h
    split at h <;> (try (simp at h; done))
    split at h <;> (try (simp at h; done))
    simp only [Option.some.injEq, Prod.mk.injEq] at h; rw [← h.1]; trivial
  | unOp =>
    simp only [ho] at h
    split at h <;> (try (simp at h; done)) <;> (simp only [Option.some.injEq, Prod.mk.injEq] at h; rw [← h.1]; trivial)
  | convert =>
    simp only [ho] at h
    split at h <;> (try (simp at h; done))
    split at h <;> (try (simp at h; done))
    simp only [Option.some.injEq, Prod.mk.injEq] at h; rw [← h.1]; trivial
  | _ => simp [ho] at ht

theorem slNil_sound (hR : Rel O nt ρ I s a w) {x : LV} {v : Value} (hv : VR ρ w I x v) {n : Nat} (h : slLen s x = some n) : ∃ A m c, v = .slice A m c ∧ (0 < n → A ≠ none) := by
  unfold slLen at h
  split at h
  · obtain rfl := Option.some.inj h
    cases VR.data hv with
    | nil f A c => exact ⟨_, _, _, rfl, fun h => absurd h (by omega)⟩
    | l n f a c sz vs h0 => exact ⟨_, _, _, rfl, fun _ => by simp⟩
  · obtain rfl := Option.some.inj h
    rw [VR.atom hv]
    exact ⟨_, _, _, rfl, fun h => absurd h (by omega)⟩
  · rename_i k
    split at h <;> (try (simp at h; done))
    rename_i e sz n' f hk
    obtain rfl := Option.some.inj h
    obtain ⟨h0, u, xs, h2, h3, h4, h5, h6⟩ := hR.hp k _ hk
    cases hv with
    | row hρ hvs =>
      obtain rfl := Option.some.inj (h2.symm.trans hρ)
      rcases h3.2 with ⟨rfl, rfl⟩ | ⟨g0, cap, cur, rfl, _⟩
      · exact ⟨_, _, _, rfl, fun h => absurd h (by omega)⟩
      · exact ⟨_, _, _, rfl, fun _ => by simp⟩
  · simp at h

theorem run_equal_nil {t e : TypeId} (hu : P.underlying t = some (.slice e)) (A : Option Addr) (m c : Nat) : (Op.equal t (.slice A m c) (.slice none 0 0)).run P w = .ok A.isNone w := by
  unfold Op.equal
  rw [show Op.maxDepth = 9999 + 1 from rfl]
  unfold Op.equalIn
  simp only [Sem.run_bind, run_underlying hu, Result.andThen_ok]
  cases A <;> simp only [Sem.run_pure] <;> rfl

theorem nilT_run (hT : TOk P T) {b : Bool} {n : Nat} (h : nilT T o s = some (b, n)) (hR : Rel O nt ρ I s a w) : ∃ r : Bool, (0 < n → r = !b) ∧ (execOp a.eval o).run P w = .ok (.value (.bool r)) w := by
  unfold nilT at h
  split at h <;> (try (simp at h; done))
  rename_i op t x t' ho
  split at h <;> (try (simp at h; done))
  rename_i ti hti
  split at h <;> (try (simp at h; done))
  rename_i e hk
  split at h <;> (try (simp at h; done))
  rename_i n' hn
  obtain ⟨i, d, z, hi, hu, hz, hsz, hby, hc, hl, htk⟩ := (hT t ti hti).ex
  rw [hk] at htk
  obtain rfl := (show d = .slice e from htk)
  obtain ⟨A, m, c, hv, hA⟩ := slNil_sound hR (leval_sound hR x) hn
  have hy : a.eval (.const (.slice none 0 0)) = .slice none 0 0 := rfl
  have fin : 0 < n' → A.isNone = false := fun hn => by
    have := hA hn
    revert this
    clear hv
    cases A <;> simp
  split at h <;> (try (simp at h; done))
  · simp only [Option.some.injEq, Prod.mk.injEq] at h
    obtain ⟨rfl, rfl⟩ := h
    refine ⟨A.isNone, fun hn => by rw [fin hn]; rfl, ?_⟩
    simp only [execOp, ho, hv, hy, Sem.run_bind, eqGuard, binOp, run_equal_nil hu, Result.andThen_ok, Sem.run_pure]
    try rfl
  · simp only [Option.some.injEq, Prod.mk.injEq] at h
    obtain ⟨rfl, rfl⟩ := h
    refine ⟨!A.isNone, fun hn => by rw [fin hn], ?_⟩
    simp only [execOp, ho, hv, hy, Sem.run_bind, eqGuard, binOp, run_equal_nil hu, Result.andThen_ok, Sem.run_pure]
    try rfl

/-- what an operation leaves -/
def After (O : Nat → Prop) (nt kb : Nat) (ρ : Nat → Option Value) (I : Nat → Prop) (s : LS) (w : World) (K : LS → Prop) (a' : Act) (w' : World) : Prop :=
  ∃ s' ρ' I', K s' ∧ Rel O nt ρ' I' s' a' w' ∧ (∀ k, ¬ (kb ≤ k ∧ k < kb + 32) → k < s.nx → ρ' k = ρ k) ∧ Fresh ρ' s.nx ∧ s'.nx = s.nx ∧ s'.lo = s.lo ∧ (∀ b, I b → I' b) ∧ (∀ b, I' b → I b ∨ O b) ∧ (∀ b, I b → w'.heap[b]? = w.heap[b]?) ∧ Step O w w'

theorem run_call {f : Operand} {args : Array Operand} {ts : Array TypeId} (ho : o.op = .call { callee := .value f, args := args, argTypes := ts }) {g : FuncId} {us : Array Value} (hf : a.eval f = .func (.func g) #[] us)
    (hfn : ∃ fn, P.funcs[g]? = some fn ∧ fn.body.isSome = true ∧ (fn.name == "runtime.NumGoroutine") = false) : (execOp a.eval o).run P w = .ok (.enter g (args.map a.eval ++ us)) w := by
  obtain ⟨fn, h1, h2, h3⟩ := hfn
  have hb : fn.body.isNone = false := by cases hb : fn.body <;> simp_all
  simp only [execOp, ho, resolve, hf, Deferred.ofValue, Sem.run_bind, Sem.run_pure, Result.andThen_ok, invoke, callFunc, Array.empty_append]
  have h4 : ¬ fn.name = "runtime.NumGoroutine" := by simpa using h3
  have h5 : ¬ fn.body = none := by intro e; simp [e] at h2
  simp [program, Sem.run, h1, h4, h5]

theorem frz1_sound (hR : Rel O nt ρ I s a w) (x : Operand) : ∃ I' : Nat → Prop, (∀ b, I b → I' b) ∧ (∀ b, I' b → I b ∨ O b) ∧ (frz1 s x).nx = s.nx ∧ (frz1 s x).lo = s.lo ∧ Rel O nt ρ I' (frz1 s x) a w := by
  have same : ∃ I' : Nat → Prop, (∀ b, I b → I' b) ∧ (∀ b, I' b → I b ∨ O b) ∧ s.nx = s.nx ∧ s.lo = s.lo ∧ Rel O nt ρ I' s a w := ⟨I, fun _ h => h, fun _ h => .inl h, rfl, rfl, hR⟩
  unfold frz1
  split <;> (try exact same)
  rename_i t
  split <;> (try exact same)
  rename_i k hk
  split <;> (try exact same)
  rename_i e sz n f he
  have hv := hR.fr t
  rw [hk] at hv
  have hd := rowD hR hv he (ks := [k]) (by simp)
  have hρ : ρ k = some (a.tmps.getD t undef) := by cases hv with | row h _ => exact h
  have hks : ∀ b, Used ρ w I s [k] b → I b ∨ O b := by
    rintro b (hb | ⟨k', e', v, hin, q1, q2, q3⟩)
    · exact .inl hb
    · exact .inr (hR.ow k' e' v b q1 q2 q3).2.1
  refine ⟨Used ρ w I s [k], fun b hb => .inl hb, hks, rfl, rfl, ?_⟩
  have sub : ∀ j e', upd s.hp k none j = some e' → j ≠ k ∧ s.hp j = some e' := by
    intro j e' hj
    by_cases h : j = k
    · subst h; simp [upd_same] at hj
    · rw [upd_ne _ _ h] at hj; exact ⟨h, hj⟩
  have h1 := (hR.less (hp' := upd s.hp k none) (fun j e' hj => (sub j e' hj).2)).more (I' := Used ρ w I s [k]) (Ext.refl _) (fun b hb => .inl hb) (fun b hb => by
      rcases hb with hb | ⟨k', e', v, hin, q1, q2, q3⟩
      · exact hR.lt b hb
      · exact (hR.ow k' e' v b q1 q2 q3).2.2) (fun j e' v g hj hv hg hb => by
      obtain ⟨hne, hj2⟩ := sub j e' hj
      rcases hb with hb | ⟨k', e2, v2, hin, q1, q2, q3⟩
      · exact (hR.ow j e' v g hj2 hv hg).1 hb
      · have hkk : k' = k := by simpa using hin
        exact hne (hkk ▸ hR.ds j k' e' e2 v v2 g hj2 q1 hv q2 hg q3))
  refine ⟨fun i => ?_, h1.hp, h1.ow, h1.ds, h1.lt, h1.df, h1.sz, h1.gl⟩
  by_cases hi : i = t
  · subst hi
    simp only [upd_same]
    exact .d hd
  · simp only [upd_ne _ _ hi]
    exact h1.fr i
theorem frzL_sound : ∀ (l : List (Nat × Operand)) {s : LS} {I : Nat → Prop}, Rel O nt ρ I s a w → ∃ I' : Nat → Prop, (∀ b, I b → I' b) ∧ (∀ b, I' b → I b ∨ O b) ∧ (frzL s l).nx = s.nx ∧ (frzL s l).lo = s.lo ∧ Rel O nt ρ I' (frzL s l) a w
  | [], s, I, hR => ⟨I, fun _ h => h, fun _ h => .inl h, rfl, rfl, hR⟩
  | (i, x) :: l, s, I, hR => by
    obtain ⟨I1, h1, h2, h3, h4, h5⟩ := frz1_sound hR x
    obtain ⟨I2, j1, j2, j3, j4, j5⟩ := frzL_sound l h5
    exact ⟨I2, fun b hb => j1 b (h1 b hb), fun b hb => (j2 b hb).elim (h2 b) .inr, by rw [frzL, j3, h3], by rw [frzL, j4, h4], j5⟩
theorem frzO_sound (hR : Rel O nt ρ I s a w) : ∃ I' : Nat → Prop, (∀ b, I b → I' b) ∧ (∀ b, I' b → I b ∨ O b) ∧ (frzO o s).nx = s.nx ∧ (frzO o s).lo = s.lo ∧ Rel O nt ρ I' (frzO o s) a w := by
  have same : ∃ I' : Nat → Prop, (∀ b, I b → I' b) ∧ (∀ b, I' b → I b ∨ O b) ∧ s.nx = s.nx ∧ s.lo = s.lo ∧ Rel O nt ρ I' s a w := ⟨I, fun _ h => h, fun _ h => .inl h, rfl, rfl, hR⟩
  unfold frzO
  split
  · exact frz1_sound hR _
  · split
    · exact frz1_sound hR _
    · exact same
  · exact frzL_sound _ hR
  · exact same

theorem opK_sound (hT : TOk P T) {lz draw : Bool} {K : LS → Prop} (h : opK P T lz draw kb o s K) (hR : Rel O nt ρ I s a w) (hd : ∀ d, o.dst = some d → d < nt) (hfree : ∀ k, kb ≤ k → k < kb + 32 → ρ k = none) (hF : Fresh ρ s.nx) (hlt : kb + 32 ≤ s.nx) (hO : ∀ g, w.heap.size ≤ g → O g) (Q : Exit → Act → World → Prop) :
    o.wp P a w (After O nt kb ρ I s w K) Q := by
  unfold opK at h
  cases hc : isCall o with
  | false =>
    rw [hc] at h
    simp only at h
    split at h
    · rename_i b n hnl
      obtain ⟨r, hr, hrun⟩ := nilT_run hT hnl hR
      unfold Oper.wp
      rw [hrun]
      exact ⟨_, ρ, I, h r hr, hR.put hd (.d (.v _)), fun _ _ _ => rfl, hF, LS.put_nx _ _ _, LS.put_lo _ _ _, fun _ h => h, fun _ h => .inl h, fun _ _ => rfl, Step.refl _ _⟩
    split at h
    · rename_i p s' hof
      obtain ⟨e1, e2, nx, v, w', ρ', I', hrun, hnx, hR', hE, hk, hI, hI2, hkeep, hst⟩ := opX_sound hT hof (ask_elim h).1 hR hd (hfree kb (Nat.le_refl _) (by omega)) hO
      have hA : After O nt kb ρ I s w K (a.put o.dst v) w' := ⟨s', ρ', I', (ask_elim h).2, hR', fun k hk1 hk2 => hk k (fun e => hk1 (by omega)), fun k hk' => by rw [hk k (by omega)]; exact hF k hk', e1, e2, hI, hI2, hkeep, hst⟩
      unfold Oper.wp
      rw [hrun]
      rcases hnx with rfl | ⟨rfl, rfl⟩
      · exact hA
      · exact hA
    split at h <;> (try (exact h.elim))
    rename_i p s' hof
    have h : p ∧ K s' := by
      split at h
      · rename_i ht
        exact ⟨opT_true hof ht, h⟩
      · exact h
    obtain ⟨I0, z1, z2, z3, z4, hR⟩ := frzO_sound (o := o) hR
    obtain ⟨e1, e2, nx, v, w', ρ', I', hrun, hnx, hR', hE, hk, hI, hI2, hkeep, hst⟩ := opF_sound hT hof h.1 hR hd (hfree kb (Nat.le_refl _) (by omega)) hO
    have hA : After O nt kb ρ I s w K (a.put o.dst v) w' := ⟨s', ρ', I', h.2, hR', fun k hk1 hk2 => hk k (fun e => hk1 (by omega)), fun k hk' => by rw [hk k (by omega)]; exact hF k hk', e1.trans z3, e2.trans z4, fun b hb => hI b (z1 b hb), fun b hb => (hI2 b hb).elim (z2 b) .inr, fun b hb => hkeep b (z1 b hb), hst⟩
    unfold Oper.wp
    rw [hrun]
    rcases hnx with rfl | ⟨rfl, rfl⟩
    · exact hA
    · exact hA
  | true =>
    rw [hc] at h
    simp only at h
    split at h <;> (try (exact h.elim))
    rename_i g args hco
    unfold callOf at hco
    split at hco <;> (try (simp at hco; done))
    rename_i f cargs ts hop
    split at hco <;> (try (simp at hco; done))
    rename_i g' caps hlf
    simp only [Option.some.injEq, Prod.mk.injEq] at hco
    obtain ⟨rfl, rfl⟩ := hco
    have hvf := leval_sound hR f
    rw [hlf] at hvf
    generalize hfe : a.eval f = vf at hvf
    cases hvf with
    | fn hl hc2 =>
      rename_i us
      have hargs : ((cargs.map a.eval ++ us).toList).length = (cargs.toList.map (leval s) ++ caps).length := by simp [hl]
      have hvr : ∀ j, j < (cargs.toList.map (leval s) ++ caps).length → VR ρ w I ((cargs.toList.map (leval s) ++ caps).getD j .bad) ((cargs.map a.eval ++ us).toList.getD j undef) := by
        intro j hj
        by_cases hj1 : j < cargs.size
        · have e1 : (cargs.toList.map (leval s) ++ caps).getD j .bad = leval s cargs[j] := by simp [List.getD, List.getElem?_append, hj1]
          have e2 : (cargs.map a.eval ++ us).toList.getD j undef = a.eval cargs[j] := by simp [List.getD, List.getElem?_append, hj1]
          rw [e1, e2]
          exact leval_sound hR _
        · have hj2 : j - cargs.size < caps.length := by simp at hj; omega
          have hj3 : j - cargs.size < us.size := by omega
          have := hc2 (j - cargs.size) hj2
          have e1 : (cargs.toList.map (leval s) ++ caps).getD j .bad = caps.getD (j - cargs.size) .bad := by simp [List.getD, List.getElem?_append, hj1]
          have e2 : (cargs.map a.eval ++ us).toList.getD j undef = us.getD (j - cargs.size) undef := by simp [List.getD, List.getElem?_append, hj1, Array.getD, hj3]
          rw [e1, e2]
          exact this
      have h := forceList_iff (fun _ _ => forceLV_iff) h
      rcases h with ⟨r, lvs, hsn, hfn, hcnd, hK⟩ | ⟨_, hin⟩
      · unfold Oper.wp
        rw [run_call hop hfe hfn.fn, Oper.upon_enter]
        have hlen : r.leaves.length ≤ 32 := by rw [Bool.and_eq_true] at hcnd; simpa using hcnd.1
        obtain ⟨m1, m2⟩ := mapO_get hsn
        have := hfn.calls w (Used ρ w I s ((cargs.toList.map (leval s) ++ caps).flatMap (keysOf s))) (cargs.map a.eval ++ us).toList ⟨fun b hb => by
            rcases hb with hb | ⟨k, e, v, _, q1, q2, q3⟩
            · exact hR.lt b hb
            · exact (hR.ow k e v b q1 q2 q3).2.2, hR.gl.mono (fun _ hb => .inl hb) (fun _ _ => rfl)⟩ (by rw [m1, ← hargs]) (fun j hj => by
            have hj' : j < (cargs.toList.map (leval s) ++ caps).length := by rw [← m1]; exact hj
            obtain ⟨y, hy1, hy2⟩ := m2 j _ (get_of_lt hj' .bad)
            rw [getD_some hy1]
            exact snap_sound hR (hvr j hj') hy2 (fun k hk => List.mem_flatMap.2 ⟨_, List.mem_of_getElem? (get_of_lt hj' .bad), hk⟩))
        simp only [Array.toArray_toList] at this
        refine this.mono ?_
        rintro e W' ⟨v, rfl, hB, hrr⟩
        obtain ⟨ρ', I', r1, r2, r3, r4, r7, r5, r6⟩ := call_rel (kb := kb) (o := o) hR hO hB hrr (fun i hi => hfree _ (by omega) (by omega)) hd
        have e1 : (callS s kb o.dst (cargs.toList.map (leval s) ++ caps) r).nx = s.nx := LS.put_nx _ _ _
        exact ⟨_, ρ', I', hK, r1, fun k hk1 hk2 => r3 k (by omega), fun k hk => by rw [r3 k (by omega)]; exact hF k hk, e1, LS.put_lo _ _ _, r4, r7, r5, r6⟩
      · unfold Oper.wp
        rw [run_call hop hfe hin.fn, Oper.upon_enter]
        have := hin.calls O nt ρ I a w (cargs.map a.eval ++ us).toList hO hF hfree hlt hR hargs hvr
        simp only [Array.toArray_toList] at this
        refine this.mono ?_
        rintro e W' ⟨v, lv, s', ρ', I', rfl, hK, hv, hR', hn, hF', hnx, hlo, hI, hI2, hkeep, hst⟩
        exact ⟨_, ρ', I', hK, hR'.put hd hv, hn, hF', by rw [LS.put_nx]; exact hnx, by rw [LS.put_lo]; exact hlo, hI, hI2, hkeep, hst⟩

theorem gone_not {ops : Array Oper} {g : Nat} {want : Bool} (h : gone ops s g = true) (hR : Rel O nt ρ I s a w) (hg : o.guard = some (g, want)) : Region.wanted o (yielded ops a.tmps) = false := by
  unfold gone at h
  split at h <;> (try (simp at h; done))
  rename_i og hog
  split at h <;> (try (simp at h; done))
  rename_i t hdst
  split at h <;> (try (simp at h; done))
  rename_i x hfr
  have hv := hR.fr t
  rw [hfr] at hv
  have hv := VR.atom hv
  have hy : yielded ops a.tmps g = none := by
    simp only [yielded, hog, hdst, Option.bind_some]
    cases ht : a.tmps[t]? with
    | none => rfl
    | some v =>
      have : v = .tuple x := by
        rw [Array.getD_eq_getD_getElem?, ht] at hv
        exact hv
      subst this
      rfl
  simp [Region.wanted, hg, hy]
/-- the operations of a region, from place i on -/
theorem opsK_sound (hT : TOk P T) {draw : Bool} {ops : Array Oper} {nx0 : Nat} {K : LS → Prop} {Q : Exit → Act → World → Prop} (hdst : ∀ o ∈ ops.toList, ∀ d, o.dst = some d → d < nt) :
    ∀ (os : List Oper) (i : Nat) (s : LS) (ρ : Nat → Option Value) (I : Nat → Prop) (a : Act) (w : World), ops.toList.drop i = os → opsK P T draw ops nx0 os i s K → Rel O nt ρ I s a w → s.lo ≤ nx0 →
      (∀ j k, i ≤ j → j < ops.size → nx0 + 32 * j ≤ k → k < nx0 + 32 * j + 32 → ρ k = none) → Fresh ρ s.nx → nx0 + 32 * ops.size ≤ s.nx → (∀ g, w.heap.size ≤ g → O g) →
      (∀ s' ρ' I' a' w', K s' → Rel O nt ρ' I' s' a' w' → Fresh ρ' s'.nx → s'.nx = s.nx → s'.lo = s.lo → Tr O s.lo ρ I w ρ' I' w' → Q .normal a' w') →
      wpOps P ops Q (List.range' i os.length) a w
  | [], i, s, ρ, I, a, w, hos, h, hR, hlo, hp, hF, hlt, hO, hQ => hQ s ρ I a w h hR hF rfl rfl (Tr.refl _ _ _ _ _)
  | o :: os, i, s, ρ, I, a, w, hos, h, hR, hlo, hp, hF, hlt, hO, hQ => by
    have hi : i < ops.toList.length := by
      rcases Nat.lt_or_ge i ops.toList.length with h | h
      · exact h
      · rw [List.drop_eq_nil_of_le h] at hos; simp at hos
    have his : i < ops.size := by simpa using hi
    have hdo : ops.toList.drop i = ops.toList[i] :: ops.toList.drop (i + 1) := (List.getElem_cons_drop hi).symm
    rw [hdo] at hos
    obtain ⟨ho, hos'⟩ := List.cons.inj hos
    have hoi : ops[i]? = some o := by rw [← ho]; simp [his]
    have hmem : o ∈ ops.toList := by rw [← ho]; exact List.getElem_mem hi
    have hd := hdst o hmem
    have next : ∀ (s1 : LS) (ρ1 : Nat → Option Value) (I1 : Nat → Prop) (a1 : Act) (w1 : World), opsK P T draw ops nx0 os (i + 1) s1 K → Rel O nt ρ1 I1 s1 a1 w1 → (∀ k, ¬ (nx0 + 32 * i ≤ k ∧ k < nx0 + 32 * i + 32) → k < s.nx → ρ1 k = ρ k) → Fresh ρ1 s1.nx → s1.nx = s.nx → s1.lo = s.lo →
        (∀ b, I b → I1 b) → (∀ b, I1 b → I b ∨ O b) → (∀ b, I b → w1.heap[b]? = w.heap[b]?) → Step O w w1 → wpOps P ops Q (List.range' (i + 1) os.length) a1 w1 := by
      intro s1 ρ1 I1 a1 w1 h1 hR1 hn hF1 hnx hl hI hI2 hk hst
      refine opsK_sound hT hdst os (i + 1) s1 ρ1 I1 a1 w1 hos' h1 hR1 (by omega) (fun j k hj hjs hk1 hk2 => ?_) hF1 (by omega) (fun g hg => hO g (Nat.le_trans hst.size hg)) (fun s' ρ' I' a' w' hK hR' hF' hnx' hl' htr => ?_)
      · rw [hn k (by omega) (by omega)]
        exact hp j k (by omega) hjs hk1 hk2
      · refine hQ s' ρ' I' a' w' hK hR' hF' (by omega) (by omega) ?_
        rw [hl] at htr
        exact Tr.trans ⟨fun k hk => hn k (by omega) (by omega), hI, hI2, hk, hst⟩ htr
    have run : opK P T (lazyOf ops o) draw (nx0 + 32 * i) o s (fun s' => forceS o.dst (fkeys (nx0 + 32 * i) o s) s' fun s' => forceN (needs ops o os) s' fun s' => opsK P T draw ops nx0 os (i + 1) s' K) → o.wp P a w (wpOps P ops Q (List.range' (i + 1) os.length)) Q := by
      intro h1
      refine Oper.wp_mono (fun a1 w1 hA => ?_) (opK_sound hT h1 hR hd (fun k hk1 hk2 => hp i k (Nat.le_refl _) his hk1 hk2) hF (by omega) hO Q)
      obtain ⟨s1, ρ1, I1, q1, q2, q3, q4, q5, q6, q7, q7', q8, q9⟩ := hA
      exact next s1 ρ1 I1 a1 w1 (forceN_iff (forceS_iff q1)) q2 q3 (by rw [q5]; exact q4) q5 q6 q7 q7' q8 q9
    simp only [List.length_cons, List.range'_succ, wpOps, hoi]
    rw [opsK_cons] at h
    cases hg : o.guard with
    | none =>
      rw [hg] at h
      have hwt : Region.wanted o (yielded ops a.tmps) = true := by simp [Region.wanted, hg]
      rw [if_pos hwt]
      exact .inl (run h)
    | some gw =>
      obtain ⟨g, want⟩ := gw
      rw [hg] at h
      simp only at h
      split at h
      rotate_left
      · split at h <;> (try (exact h.elim))
        rename_i hgo
        have hwt := gone_not hgo hR hg
        rw [if_neg (by rw [hwt]; simp)]
        exact next _ ρ I _ w h (hR.put hd (.d (.v _))) (fun _ _ _ => rfl) (by rw [LS.put_nx]; exact hF) (LS.put_nx _ _ _) (LS.put_lo _ _ _) (fun _ h => h) (fun _ h => .inl h) (fun _ _ => rfl) (Step.refl _ _)
      rename_i t b hgl
      unfold guardLV at hgl
      split at hgl <;> (try (simp at hgl; done))
      rename_i og hog
      split at hgl <;> (try (simp at hgl; done))
      rename_i t' hdst2
      split at hgl <;> (try (simp at hgl; done))
      rename_i b' hfr
      simp only [Option.some.injEq, Prod.mk.injEq] at hgl
      obtain ⟨rfl, rfl⟩ := hgl
      have hv := hR.fr t'
      rw [hfr] at hv
      have hv := VR.atom hv
      have ht : t' < a.tmps.size := by
        rcases Nat.lt_or_ge t' a.tmps.size with h | h
        · exact h
        · simp [Array.getD, Nat.not_lt.2 h, undef] at hv
      have hv2 : a.tmps[t']? = some (.bool b') := by
        simp only [Array.getD, ht, dif_pos] at hv
        simp only [Array.getElem?_eq_getElem ht]
        exact congrArg some hv
      have hy : yielded ops a.tmps g = some b' := by simp [yielded, hog, hdst2, hv2]
      have hRk : ∀ b0, b' = b0 → Rel O nt ρ I (s.know t' b0) a w := by
        rintro b0 rfl
        refine ⟨fun i => ?_, hR.hp, hR.ow, hR.ds, hR.lt, hR.df, hR.sz, hR.gl⟩
        simp only [LS.know, upd_eq]
        split
        · rename_i e
          rw [e, hv]
          exact .d (.v _)
        · exact hR.fr i
      have go : ∀ b0, b' = b0 → (match same b0 want with
            | true => opK P T (lazyOf ops o) draw (nx0 + 32 * i) o (s.know t' b0) fun s' => forceS o.dst (fkeys (nx0 + 32 * i) o (s.know t' b0)) s' fun s' => forceN (needs ops o os) s' fun s' => opsK P T draw ops nx0 os (i + 1) s' K
            | false => opsK P T draw ops nx0 os (i + 1) ((s.know t' b0).put o.dst (.d (.v (.tuple #[])))) K) →
          (if Region.wanted o (yielded ops a.tmps) = true then o.wp P a w (wpOps P ops Q (List.range' (i + 1) os.length)) Q ∨ (o.asks P a w ∧ LetsOut Q) else wpOps P ops Q (List.range' (i + 1) os.length) (a.put o.dst undef) w) := by
        intro b0 e0 h0
        by_cases hbw : b0 = want
        · have hwt : Region.wanted o (yielded ops a.tmps) = true := by simp [Region.wanted, hg, hy, e0, hbw]
          have hs : same b0 want = true := by subst hbw; cases b0 <;> rfl
          rw [hs] at h0
          rw [if_pos hwt]
          refine .inl (Oper.wp_mono (fun a1 w1 hA => ?_) (opK_sound hT h0 (hRk b0 e0) hd (fun k hk1 hk2 => hp i k (Nat.le_refl _) his hk1 hk2) hF (by simp only [LS.know]; omega) hO Q))
          obtain ⟨s1, ρ1, I1, q1, q2, q3, q4, q5, q6, q7, q7', q8, q9⟩ := hA
          exact next s1 ρ1 I1 a1 w1 (forceN_iff (forceS_iff q1)) q2 q3 (by rw [q5]; exact q4) q5 q6 q7 q7' q8 q9
        · have hwt : Region.wanted o (yielded ops a.tmps) = false := by
            simp only [Region.wanted, hg, hy, e0]
            cases b0 <;> cases want <;> simp_all
          have hs : same b0 want = false := by cases b0 <;> cases want <;> simp_all [same]
          rw [hs] at h0
          rw [if_neg (by rw [hwt]; simp)]
          exact next _ ρ I _ w h0 ((hRk b0 e0).put hd (.d (.v _))) (fun _ _ _ => rfl) (by rw [LS.put_nx]; exact hF) (LS.put_nx _ _ _) (LS.put_lo _ _ _) (fun _ h => h) (fun _ h => .inl h) (fun _ _ => rfl) (Step.refl _ _)
      cases hb : b' with
      | true => exact go true hb (h.1 hb)
      | false => exact go false hb (h.2 hb)
end
attribute [irreducible] bsplit ask
end Go.Proofs.YtojaakpnpdnbhaaGreatDoor.L
