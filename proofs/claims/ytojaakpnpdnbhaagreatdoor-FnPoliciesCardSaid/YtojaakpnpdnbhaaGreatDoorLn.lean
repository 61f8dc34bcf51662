/- Regions that draw their order, in the symbolic logic: each operation sees what it touches alone, so that text order tells of every order. -/
import Derived.Test.YtojaakpnpdnbhaaGreatDoorLk
set_option linter.unusedVariables false
set_option linter.unusedSimpArgs false
namespace Go.Proofs.YtojaakpnpdnbhaaGreatDoor.L
open Go.RowKit

def isWr (o : Oper) : Bool := match o.op with
  | .store _ _ _ => true
  | .slice _ _ _ _ _ => true
  | .buildSlice _ _ _ => true
  | .call { callee := .builtin .append, .. } => true
  | _ => false

theorem LS.put_hp (s : LS) (dst : Option Tmp) (x : LV) : (s.put dst x).hp = s.hp := by cases dst <;> rfl

theorem opF_keeps {T : TT} {kb : Nat} {o : Oper} {s s' : LS} {p : Prop} (h : opF T kb o s = some (p, s')) : s'.nx = s.nx ∧ s'.lo = s.lo ∧ (isWr o = false → ∀ k, k ≠ kb → s'.hp k = s.hp k) := by
  unfold opF at h
  unfold isWr
  split at h
  all_goals (try (rename_i ho; simp only [ho]))
  all_goals (try simp only [Bool.cond_eq_ite] at h)
  all_goals (repeat' (split at h))
  all_goals (try (simp only [reduceCtorEq] at h; done))
  all_goals (simp only [Option.some.injEq, Prod.mk.injEq] at h; obtain ⟨-, rfl⟩ := h)
  all_goals (refine ⟨by simp [LS.put_nx], by simp [LS.put_lo], fun hw k hk => ?_⟩)
  all_goals (first
    | (exact congrFun (LS.put_hp _ _ _) k)
    | (simp at hw; done)
    | (rw [LS.put_hp]; exact upd_ne _ _ hk))

theorem frzO_id {o : Oper} {s : LS} (h : isWr o = false) : frzO o s = s := by
  unfold frzO
  unfold isWr at h
  split
  · rename_i ho; rw [ho] at h; simp at h
  · rename_i ho; rw [ho] at h; simp at h
  · rename_i ho; rw [ho] at h; simp at h
  · rfl

/-! what an operation touches -/
def rowK : LV → List Nat
  | .row k => [k]
  | .sub k _ _ _ => [k]
  | _ => []
def tch (o : Oper) (s : LS) : List Nat := match o.op with
  | .load _ x => topK (leval s x)
  | .store _ x y => match leval s x with
    | .eptr k _ _ _ => k :: rowK (leval s y)
    | z => topK z
  | .slice _ x _ _ _ => rowK (leval s x)
  | .buildSlice _ _ parts => parts.toList.flatMap fun p => rowK (leval s p.2)
  | .indexAddr _ x _ => topK (leval s x)
  | .convert _ _ x => topK (leval s x)
  | .lookup _ x _ _ => topK (leval s x)
  | .mapUpdate _ x _ _ => topK (leval s x)
  | .call { callee := .value f, args, .. } => match leval s f with
    | .fn _ caps => (args.toList.map (leval s) ++ caps).flatMap (keysOf s)
    | _ => []
  | .call { callee := .builtin _, args, .. } => args.toList.flatMap fun x => topK (leval s x)
  | _ => []
def blkOf (kb k : Nat) : Bool := Nat.ble kb k && Nat.blt k (kb + 32)
theorem blkOf_iff {kb k : Nat} : blkOf kb k = true ↔ kb ≤ k ∧ k < kb + 32 := by
  simp [blkOf, Nat.blt]; omega
/-- the state as one operation sees it -/
def restr (s : LS) (ts X : List Nat) : LS := { fr := fun t => bif isIn ts t then s.fr t else .bad, hp := fun k => bif isIn X k then s.hp k else none, nx := s.nx, lo := s.lo }
/-- what it leaves, put back -/
def merge (dst : Option Tmp) (kb : Nat) (wr : Bool) (X : List Nat) (s s1 : LS) : LS :=
  { s with fr := (match dst with | some d => upd s.fr d (s1.fr d) | none => s.fr), hp := fun k => bif (wr && isIn X k) || blkOf kb k then s1.hp k else s.hp k }

/-- no test against nil -/
def opXn (T : TT) (o : Oper) (s : LS) : Bool := match nilT T o s with
  | none => true
  | some _ => false
def opD (P : Program) (T : TT) (lz : Bool) (kb : Nat) (o : Oper) (s : LS) (K : Bool → LS → Prop) : Prop := match isCall o with
  | true => match callOf o s with
    | some (g, args) => forceList forceLV args fun args => (∃ r lvs, mapO (snap s) args = some lvs ∧ FnOK P g lvs r ∧ Nat.ble r.leaves.length 32 = true ∧ K (r.leaves.any isSh) (callS s kb o.dst args r)) ∨
        (∃ lv s1, InlOK P g args s kb (fun lv' s' => lv' = lv ∧ s' = s1) ∧ K true (s1.put o.dst lv))
    | none => False
  | false => match opX P T lz kb o s with
    | some (p, s') => match opXn T o s with
      | true => ask p (K (!(opXr o)) s')
      | false => False
    | none => match opF T kb o (frzO o s) with
      | some (p, s') => match opT o (frzO o s) with
        | true => K (isWr o) s'
        | false => ask p (K (isWr o) s')
      | none => False

/-- who must come before -/
def maskOf (o : Oper) (acc : List Nat) : Nat := o.after.toList.foldl (fun m e => bif Region.binds .any e then m ||| (1 <<< e.on) ||| acc.getD e.on 0 else m) 0
def masksGo : List Oper → List Nat → List Nat
  | [], acc => acc
  | o :: os, acc => masksGo os (acc ++ [maskOf o acc])
def masks (ops : Array Oper) : List Nat := masksGo ops.toList []
def bit (ms : List Nat) (i j : Nat) : Bool := Nat.testBit (ms.getD i 0) j
def comp (ms : List Nat) (i j : Nat) : Bool := Nat.beq i j || bit ms i j || bit ms j i
/-- edges lead back; operations that touch one place of the frame are in order -/
def okD (ops : Array Oper) (ms : List Nat) : Bool :=
  (List.range ops.size).all fun i => match ops[i]? with
    | some o => o.after.toList.all (fun e => !(Region.binds .any e) || Nat.blt e.on i) &&
        (match o.dst with
          | some d => (List.range ops.size).all fun j => comp ms i j || match ops[j]? with
            | some o' => !(isIn (o'.looksAt ops) d) && !(match o'.dst with | some d' => Nat.beq d d' | none => false)
            | none => true
          | none => true)
    | none => true
/-- operations that touch one thing are in order, if one of them writes -/
def okTr (ms : List Nat) (nx0 : Nat) (tr : List (Bool × List Nat)) : Bool :=
  (List.range tr.length).all fun i => match tr[i]? with
    | some (wr, X) => X.all (fun k => Nat.blt k nx0 || bit ms i ((k - nx0) / 32)) &&
        (!wr || (List.range tr.length).all fun j => comp ms i j || match tr[j]? with
          | some (_, Y) => X.all fun k => !(isIn Y k)
          | none => true)
    | none => true

def chk (b : Bool) (K : Prop) : Prop := b = true ∧ K
theorem chk_intro {b : Bool} {K : Prop} (h1 : b = true) (h2 : K) : chk b K := ⟨h1, h2⟩

def opsD (P : Program) (T : TT) (ops : Array Oper) (nx0 : Nat) (os : List Oper) : Nat → LS → List (Bool × List Nat) → (LS → Prop) → Prop :=
  List.rec (motive := fun _ => Nat → LS → List (Bool × List Nat) → (LS → Prop) → Prop) (fun _ s tr K => chk (okTr (masks ops) nx0 tr) (K s))
    (fun o os ih i s tr K => match o.guard with
    | none => opD P T (lazyOf ops o) (nx0 + 32 * i) o (restr s (o.looksAt ops) (tch o s)) fun wr s1 => forceS o.dst (fkeys (nx0 + 32 * i) o s) (merge o.dst (nx0 + 32 * i) wr (tch o s) s s1) fun s2 => forceN (needs ops o os) s2 fun s2 => ih (i + 1) s2 (tr ++ [(wr, tch o s)]) K
    | some (g, want) => match guardLV ops s g with
      | some (t, b) => bsplit b
          (match same true want with
            | true => opD P T (lazyOf ops o) (nx0 + 32 * i) o (restr (s.know t true) (o.looksAt ops) (tch o (s.know t true))) fun wr s1 => forceS o.dst (fkeys (nx0 + 32 * i) o (s.know t true)) (merge o.dst (nx0 + 32 * i) wr (tch o (s.know t true)) (s.know t true) s1) fun s2 => forceN (needs ops o os) s2 fun s2 => ih (i + 1) s2 (tr ++ [(wr, tch o (s.know t true))]) K
            | false => ih (i + 1) ((s.know t true).put o.dst (.d (.v (.tuple #[])))) (tr ++ [(false, [])]) K)
          (match same false want with
            | true => opD P T (lazyOf ops o) (nx0 + 32 * i) o (restr (s.know t false) (o.looksAt ops) (tch o (s.know t false))) fun wr s1 => forceS o.dst (fkeys (nx0 + 32 * i) o (s.know t false)) (merge o.dst (nx0 + 32 * i) wr (tch o (s.know t false)) (s.know t false) s1) fun s2 => forceN (needs ops o os) s2 fun s2 => ih (i + 1) s2 (tr ++ [(wr, tch o (s.know t false))]) K
            | false => ih (i + 1) ((s.know t false).put o.dst (.d (.v (.tuple #[])))) (tr ++ [(false, [])]) K)
      | none => match gone ops s g with
        | true => ih (i + 1) (s.put o.dst (.d (.v (.tuple #[])))) (tr ++ [(false, [])]) K
        | false => False) os
theorem opsD_cons (P : Program) (T : TT) (ops : Array Oper) (nx0 : Nat) (o : Oper) (os : List Oper) (i : Nat) (s : LS) (tr : List (Bool × List Nat)) (K : LS → Prop) : opsD P T ops nx0 (o :: os) i s tr K = match o.guard with
    | none => opD P T (lazyOf ops o) (nx0 + 32 * i) o (restr s (o.looksAt ops) (tch o s)) fun wr s1 => forceS o.dst (fkeys (nx0 + 32 * i) o s) (merge o.dst (nx0 + 32 * i) wr (tch o s) s s1) fun s2 => forceN (needs ops o os) s2 fun s2 => opsD P T ops nx0 os (i + 1) s2 (tr ++ [(wr, tch o s)]) K
    | some (g, want) => match guardLV ops s g with
      | some (t, b) => bsplit b
          (match same true want with
            | true => opD P T (lazyOf ops o) (nx0 + 32 * i) o (restr (s.know t true) (o.looksAt ops) (tch o (s.know t true))) fun wr s1 => forceS o.dst (fkeys (nx0 + 32 * i) o (s.know t true)) (merge o.dst (nx0 + 32 * i) wr (tch o (s.know t true)) (s.know t true) s1) fun s2 => forceN (needs ops o os) s2 fun s2 => opsD P T ops nx0 os (i + 1) s2 (tr ++ [(wr, tch o (s.know t true))]) K
            | false => opsD P T ops nx0 os (i + 1) ((s.know t true).put o.dst (.d (.v (.tuple #[])))) (tr ++ [(false, [])]) K)
          (match same false want with
            | true => opD P T (lazyOf ops o) (nx0 + 32 * i) o (restr (s.know t false) (o.looksAt ops) (tch o (s.know t false))) fun wr s1 => forceS o.dst (fkeys (nx0 + 32 * i) o (s.know t false)) (merge o.dst (nx0 + 32 * i) wr (tch o (s.know t false)) (s.know t false) s1) fun s2 => forceN (needs ops o os) s2 fun s2 => opsD P T ops nx0 os (i + 1) s2 (tr ++ [(wr, tch o (s.know t false))]) K
            | false => opsD P T ops nx0 os (i + 1) ((s.know t false).put o.dst (.d (.v (.tuple #[])))) (tr ++ [(false, [])]) K)
      | none => match gone ops s g with
        | true => opsD P T ops nx0 os (i + 1) (s.put o.dst (.d (.v (.tuple #[])))) (tr ++ [(false, [])]) K
        | false => False := rfl

/-! ## The states of text order, as a list -/
theorem know_same {s : LS} {t : Nat} {b : Bool} (h : s.fr t = .d (.v (.bool b))) : s.know t b = s := by
  have : upd s.fr t (.d (.v (.bool b))) = s.fr := by
    funext i
    rw [upd_eq]
    split
    · rename_i e; rw [e, h]
    · rfl
  simp [LS.know, this]

/-- one step of text order -/
inductive JS (P : Program) (T : TT) (ops : Array Oper) (nx0 i : Nat) (o : Oper) (s : LS) : Bool × List Nat → LS → Prop
  | run (wr : Bool) (X : List Nat) (s1 : LS) (hg : o.guard = none ∨ ∃ g t want og, o.guard = some (g, want) ∧ ops[g]? = some og ∧ og.dst = some t ∧ s.fr t = .d (.v (.bool want)))
      (h : opD P T (lazyOf ops o) (nx0 + 32 * i) o (restr s (o.looksAt ops) X) fun wr' s' => wr' = wr ∧ s' = s1) : JS P T ops nx0 i o s (wr, X) (merge o.dst (nx0 + 32 * i) wr X s s1)
  | skip (hg : ∃ g t want og, o.guard = some (g, want) ∧ ops[g]? = some og ∧ og.dst = some t ∧ (s.fr t = .d (.v (.bool (!want))) ∨ ∃ x, s.fr t = .d (.v (.tuple x)))) : JS P T ops nx0 i o s (false, []) (s.put o.dst (.d (.v (.tuple #[]))))

theorem opD_take {P : Program} {T : TT} {lz : Bool} {kb : Nat} {o : Oper} {s : LS} {K : Bool → LS → Prop} (h : opD P T lz kb o s K) : ∃ wr s1, opD P T lz kb o s (fun wr' s' => wr' = wr ∧ s' = s1) ∧ K wr s1 := by
  unfold opD at h ⊢
  split at h
  · split at h <;> (try (exact h.elim))
    rename_i g args hco
    have h := forceList_iff (fun _ _ => forceLV_iff) h
    rcases h with ⟨r, lvs, h1, h2, h3, h4⟩ | ⟨lv, s1, h1, h3⟩
    · exact ⟨_, _, forceList_mk (fun _ _ => forceLV_mk) (.inl ⟨r, lvs, h1, h2, h3, rfl, rfl⟩), h4⟩
    · exact ⟨_, _, forceList_mk (fun _ _ => forceLV_mk) (.inr ⟨lv, s1, h1, rfl, rfl⟩), h3⟩
  · split at h
    · split at h <;> (try (exact h.elim))
      exact ⟨_, _, ask_intro (ask_elim h).1 ⟨rfl, rfl⟩, (ask_elim h).2⟩
    split at h <;> (try (exact h.elim))
    split at h
    · exact ⟨_, _, ⟨rfl, rfl⟩, h⟩
    · exact ⟨_, _, ask_intro (ask_elim h).1 ⟨rfl, rfl⟩, (ask_elim h).2⟩

/-- a chain of steps -/
inductive Chain (P : Program) (T : TT) (ops : Array Oper) (nx0 : Nat) : Nat → List Oper → LS → List (Bool × List Nat) → List LS → Prop
  | nil (i : Nat) (s : LS) : Chain P T ops nx0 i [] s [] []
  | cons {i : Nat} {o : Oper} {os : List Oper} {s s' : LS} {x : Bool × List Nat} {tr : List (Bool × List Nat)} {ss : List LS} (h : JS P T ops nx0 i o s x s') (hc : Chain P T ops nx0 (i + 1) os s' tr ss) : Chain P T ops nx0 i (o :: os) s (x :: tr) (s' :: ss)

theorem opsD_chain {P : Program} {T : TT} {ops : Array Oper} {nx0 : Nat} {K : LS → Prop} : ∀ (os : List Oper) (i : Nat) (s : LS) (tr0 : List (Bool × List Nat)), opsD P T ops nx0 os i s tr0 K →
    ∃ tr ss, Chain P T ops nx0 i os s tr ss ∧ okTr (masks ops) nx0 (tr0 ++ tr) = true ∧ K ((s :: ss).getLastD s)
  | [], i, s, tr0, h => ⟨[], [], .nil _ _, by simpa using h.1, h.2⟩
  | o :: os, i, s, tr0, h => by
    have last : ∀ (s' : LS) (ss : List LS), ((s' :: ss).getLastD s') = ((s :: s' :: ss).getLastD s) := by intro s' ss; simp [List.getLastD]
    have run : ∀ (X Y : List Nat), (o.guard = none ∨ ∃ g t want og, o.guard = some (g, want) ∧ ops[g]? = some og ∧ og.dst = some t ∧ s.fr t = .d (.v (.bool want))) →
        opD P T (lazyOf ops o) (nx0 + 32 * i) o (restr s (o.looksAt ops) X) (fun wr s1 => forceS o.dst Y (merge o.dst (nx0 + 32 * i) wr X s s1) fun s2 => forceN (needs ops o os) s2 fun s2 => opsD P T ops nx0 os (i + 1) s2 (tr0 ++ [(wr, X)]) K) →
        ∃ tr ss, Chain P T ops nx0 i (o :: os) s tr ss ∧ okTr (masks ops) nx0 (tr0 ++ tr) = true ∧ K ((s :: ss).getLastD s) := by
      intro X Y hg h
      obtain ⟨wr, s1, h1, h2⟩ := opD_take h
      obtain ⟨tr, ss, q1, q2, q3⟩ := opsD_chain os (i + 1) _ _ (forceN_iff (forceS_iff h2))
      exact ⟨_, _, .cons (.run wr X s1 hg h1) q1, by simpa using q2, by rw [← last]; exact q3⟩
    rw [opsD_cons] at h
    cases hg : o.guard with
    | none =>
      rw [hg] at h
      exact run _ _ (.inl hg) h
    | some gw =>
      obtain ⟨g, want⟩ := gw
      rw [hg] at h
      simp only at h
      split at h
      rotate_left
      · split at h <;> (try (exact h.elim))
        rename_i hgo
        unfold gone at hgo
        split at hgo <;> (try (simp at hgo; done))
        rename_i og hog
        split at hgo <;> (try (simp at hgo; done))
        rename_i t' hdst2
        split at hgo <;> (try (simp at hgo; done))
        rename_i x hfr
        obtain ⟨tr, ss, q1, q2, q3⟩ := opsD_chain os (i + 1) _ _ h
        exact ⟨_, _, .cons (.skip ⟨g, t', want, og, hg, hog, hdst2, .inr ⟨x, hfr⟩⟩) q1, by simpa using q2, by rw [← last]; exact q3⟩
      rename_i t b hgl
      unfold guardLV at hgl
      split at hgl <;> (try (simp at hgl; done))
      rename_i og hog
      split at hgl <;> (try (simp at hgl; done))
      rename_i t' hdst2
      split at hgl <;> (try (simp at hgl; done))
      rename_i b' hfr
      simp only [Option.some.injEq, Prod.mk.injEq] at hgl
      obtain ⟨rfl, rfl⟩ := hgl
      have h := bsplit_elim h
      have skip : ∀ b0, b' = b0 → b0 = (!want) → opsD P T ops nx0 os (i + 1) (s.put o.dst (.d (.v (.tuple #[])))) (tr0 ++ [(false, [])]) K → ∃ tr ss, Chain P T ops nx0 i (o :: os) s tr ss ∧ okTr (masks ops) nx0 (tr0 ++ tr) = true ∧ K ((s :: ss).getLastD s) := by
        intro b0 e1 e2 h
        obtain ⟨tr, ss, q1, q2, q3⟩ := opsD_chain os (i + 1) _ _ h
        exact ⟨_, _, .cons (.skip ⟨g, t', want, og, hg, hog, hdst2, .inl (by rw [hfr, e1, e2])⟩) q1, by simpa using q2, by rw [← last]; exact q3⟩
      cases b' with
      | true =>
        have h := h.1 rfl
        rw [know_same hfr] at h
        cases want with
        | true => exact run _ _ (.inr ⟨g, t', true, og, hg, hog, hdst2, hfr⟩) h
        | false => exact skip true rfl rfl h
      | false =>
        have h := h.2 rfl
        rw [know_same hfr] at h
        cases want with
        | true => exact skip false rfl rfl h
        | false => exact run _ _ (.inr ⟨g, t', false, og, hg, hog, hdst2, hfr⟩) h

attribute [irreducible] chk
end Go.Proofs.YtojaakpnpdnbhaaGreatDoor.L
