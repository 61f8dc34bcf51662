/- Calls of functions that turn what their caller has: contracts over a small memory with names of its own. -/
import Derived.Test.YtojaakpnpdnbhaaGreatDoorLr
set_option linter.unusedVariables false
set_option linter.unusedSimpArgs false
namespace Go.Proofs.YtojaakpnpdnbhaaGreatDoor.L
open Go.RowKit

mutual
/-- other names; what has none is not told -/
def renO (G : Nat → Option Nat) (x : LV) : LV := match x with
  | .bad => .bad
  | .d x => .d x
  | .row k => match G k with
    | some j => .row j
    | none => .bad
  | .ptr k o => match G k with
    | some j => .ptr j o
    | none => .bad
  | .eptr k sz i o => match G k with
    | some j => .eptr j sz i o
    | none => .bad
  | .dptr cs => .dptr cs
  | .agg cs => .agg (renOs G cs)
  | .tup cs => .tup (renOs G cs)
  | .fn f cs => .fn f (renOs G cs)
  | .mp k => match G k with
    | some j => .mp j
    | none => .bad
  | .sub k sz lo hi => match G k with
    | some j => .sub j sz lo hi
    | none => .bad
  | .pptr cs => .pptr cs
termination_by structural x
def renOs (G : Nat → Option Nat) (xs : List LV) : List LV := match xs with
  | [] => []
  | x :: xs => renO G x :: renOs G xs
termination_by structural xs
end
def renN (G : Nat → Option Nat) : List (Nat × NE) → List (Nat × NE)
  | [] => []
  | (i, .hole k) :: r => (i, match G k with
    | some j => .hole j
    | none => .any) :: renN G r
  | (i, .own m f) :: r => (i, .own m f) :: renN G r
  | (i, .dat x) :: r => (i, .dat x) :: renN G r
  | (i, .any) :: r => (i, .any) :: renN G r
def renE (G : Nat → Option Nat) : Ent → Ent
  | .box t cs => .box t (renOs G cs)
  | .row e sz n f => .row e sz n f
  | .map t f => .map t f
  | .nest eo ei sz n L f ov => .nest eo ei sz n L f (renN G ov)

section
variable {P : Program} {T : TT} {A : List (Nat × List Nat)} {O : Nat → Prop} {nt : Nat} {ρ ρ' : Nat → Option Value} {I : Nat → Prop} {s : LS} {a : Act} {w : World} {G : Nat → Option Nat}

theorem toArray_getD {α : Type} (l : List α) (j : Nat) (d : α) : l.toArray.getD j d = l.getD j d := by
  rcases Nat.lt_or_ge j l.length with h | h
  · simp [Array.getD, List.getD, List.getElem?_eq_getElem h, h]
  · simp [Array.getD, List.getD, List.getElem?_eq_none h, Nat.not_lt.2 h]
theorem renOs_get : ∀ (xs : List LV), (renOs G xs).length = xs.length ∧ ∀ j, (renOs G xs).getD j .bad = renO G (xs.getD j .bad)
  | [] => ⟨rfl, fun j => by simp [renOs, renO]⟩
  | x :: xs => by
    obtain ⟨h1, h2⟩ := renOs_get xs
    refine ⟨by simp [renOs, h1], fun j => ?_⟩
    cases j with
    | zero => simp [renOs]
    | succ j => simpa [renOs] using h2 j

theorem VR.ren (hG : ∀ k j v, G k = some j → ρ k = some v → ρ' j = some v) {x : LV} {v : Value} (h : VR ρ w I x v) : VR ρ' w I (renO G x) v := by
  induction h with
  | bad v => exact .bad v
  | d h => exact .d h
  | @row k v h hv =>
    simp only [renO]
    cases hg : G k with
    | none => exact .bad _
    | some j => exact .row (hG _ _ _ hg h) hv
  | @ptr k off g h =>
    simp only [renO]
    cases hg : G k with
    | none => exact .bad _
    | some j => exact .ptr (hG _ _ _ hg h)
  | @eptr k sz i off g n c h =>
    simp only [renO]
    cases hg : G k with
    | none => exact .bad _
    | some j => exact .eptr (hG _ _ _ hg h)
  | dptr vs hs hI hv hr => exact .dptr vs hs hI hv hr
  | @agg cs us hl h ih =>
    obtain ⟨r1, r2⟩ := renOs_get (G := G) cs
    exact .agg (by rw [hl]; exact r1.symm) (fun j hj => by
      show VR ρ' w I ((renOs G cs).getD j .bad) _
      rw [r2]; exact ih j (by rw [← r1]; exact hj))
  | @tup cs us hl h ih =>
    obtain ⟨r1, r2⟩ := renOs_get (G := G) cs
    exact .tup (by rw [hl]; exact r1.symm) (fun j hj => by
      show VR ρ' w I ((renOs G cs).getD j .bad) _
      rw [r2]; exact ih j (by rw [← r1]; exact hj))
  | @fn f cs us hl h ih =>
    obtain ⟨r1, r2⟩ := renOs_get (G := G) cs
    exact .fn (by rw [hl]; exact r1.symm) (fun j hj => by
      show VR ρ' w I ((renOs G cs).getD j .bad) _
      rw [r2]; exact ih j (by rw [← r1]; exact hj))
  | @mp k g h =>
    simp only [renO]
    cases hg : G k with
    | none => exact .bad _
    | some j => exact .mp (hG _ _ _ hg h)
  | @sub k sz lo hi g n c off h h1 h2 ho =>
    simp only [renO]
    cases hg : G k with
    | none => exact .bad _
    | some j => exact .sub (hG _ _ _ hg h) h1 h2 ho
  | @sub0 k sz h =>
    simp only [renO]
    cases hg : G k with
    | none => exact .bad _
    | some j => exact .sub0 (hG _ _ _ hg h)
  | pptr hs hb hc h ih => exact .pptr hs hb hc ih
theorem renN_get {L : Nat → Nat} {f : Nat → Nat → List D} : ∀ {ov : List (Nat × NE)} {i : Nat}, nOf L f (renN G ov) i = match nOf L f ov i with
    | .hole k => (match G k with
      | some j => .hole j
      | none => .any)
    | e => e
  | [], i => by simp [renN, nOf, lookN]
  | (j, e) :: r, i => by
    have ih := renN_get (L := L) (f := f) (ov := r) (i := i)
    cases hb : Nat.beq i j with
    | true => cases e <;> simp [renN, nOf, lookN, hb]
    | false => cases e <;> (simp only [renN, nOf, lookN, hb, cond_false]; exact ih)
theorem renN_own {L : Nat → Nat} {f : Nat → Nat → List D} {ov : List (Nat × NE)} {i m : Nat} {h : Nat → List D} : nOf L f (renN G ov) i = .own m h ↔ nOf L f ov i = .own m h := by
  rw [renN_get]
  cases nOf L f ov i with
  | hole k => simp only [reduceCtorEq, iff_false]; cases G k <;> simp
  | _ => simp

theorem ER.ren (hG : ∀ k j v, G k = some j → ρ k = some v → ρ' j = some v) {k j : Nat} {e : Ent} (hk : ∀ v, ρ k = some v → ρ' j = some v) (h : ER ρ w I k e) : ER ρ' w I j (renE G e) := by
  cases e with
  | box t cs =>
    obtain ⟨g, us, h1, h2, h3, h4⟩ := h
    obtain ⟨r1, r2⟩ := renOs_get (G := G) cs
    exact ⟨g, us, hk _ h1, h2, by rw [h3]; exact r1.symm, fun j hj => by rw [r2]; exact (h4 j (by rw [← r1]; exact hj)).ren hG⟩
  | row e sz n f =>
    obtain ⟨h0, v, xs, h1, r⟩ := h
    exact ⟨h0, v, xs, hk _ h1, r⟩
  | map t f =>
    obtain ⟨g, es, c, h1, r⟩ := h
    exact ⟨g, es, c, hk _ h1, r⟩
  | nest eo ei sz n L f ov =>
    obtain ⟨h0, v, xs, h1, h2, h3, h4, h5, h6⟩ := h
    refine ⟨h0, v, xs, hk _ h1, h2, h3, fun i hi => ?_, fun i j m m' x y b hi hj e1 e2 => h5 i j m m' x y b hi hj (renN_own.1 e1) (renN_own.1 e2), fun i m x b hi e1 => h6 i m x b hi (renN_own.1 e1)⟩
    have h7 := h4 i hi
    rw [renN_get]
    cases hn : nOf L f ov i with
    | hole k' =>
      rw [hn] at h7
      cases hg : G k' with
      | none => simp only [hg]; trivial
      | some j' => simp only [hg]; exact hG _ _ _ hg h7
    | own m x => rw [hn] at h7; exact h7
    | dat x => rw [hn] at h7; exact h7
    | any => trivial
theorem foot_ren {v : Value} {e : Ent} {g : Nat} : foot w v (renE G e) g ↔ foot w v e g := by
  cases e with
  | nest eo ei sz n L f ov =>
    constructor
    · rintro (h | ⟨i, m, x, u, h1, h2, h3, h4⟩)
      · exact .inl h
      · exact .inr ⟨i, m, x, u, h1, renN_own.1 h2, h3, h4⟩
    · rintro (h | ⟨i, m, x, u, h1, h2, h3, h4⟩)
      · exact .inl h
      · exact .inr ⟨i, m, x, u, h1, renN_own.2 h2, h3, h4⟩
  | _ => exact Iff.rfl

/-- The function takes these arguments, with this memory; what it answers, and what it leaves of that memory, are such as R says. Names below m were there; the names from m on are new. -/
structure MutS (P : Program) (g : FuncId) (args : List LV) (m : Nat) (hp0 : List (Nat × Ent)) (R : LV → Nat → List (Nat × Ent) → Prop) : Prop where
  fn : ∃ fn, P.funcs[g]? = some fn ∧ fn.body.isSome = true ∧ (fn.name == "runtime.NumGoroutine") = false
  calls : ∀ (O : Nat → Prop) (nt : Nat) (ρ : Nat → Option Value) (I : Nat → Prop) (a : Act) (w : World) (vs : List Value), (∀ g, w.heap.size ≤ g → O g) → (∀ k, m ≤ k → ρ k = none) →
    Rel O nt ρ I ⟨fun _ => .bad, hpL hp0, m, m⟩ a w → vs.length = args.length → (∀ j, j < args.length → VR ρ w I (args.getD j .bad) (vs.getD j undef)) →
    Calls P g vs.toArray w fun e w' => ∃ v lv m' hp1 ρ' I', R lv m' hp1 ∧ e = .returned v ∧ VR ρ' w' I' lv v ∧ Rel O nt ρ' I' ⟨fun _ => .bad, hpL hp1, m', m⟩ a w' ∧ (∀ k, k < m → ρ' k = ρ k) ∧ (∀ k, m' ≤ k → ρ' k = none) ∧ (∀ b, I b → I' b) ∧ (∀ b, I' b → I b ∨ O b) ∧ (∀ b, I b → w'.heap[b]? = w.heap[b]?) ∧ Step O w w'
/-- The same, all told. -/
structure MutOK (P : Program) (g : FuncId) (args : List LV) (m : Nat) (hp0 : List (Nat × Ent)) (lv : LV) (m' : Nat) (hp1 : List (Nat × Ent)) : Prop where
  some : MutS P g args m hp0 fun lv0 m0 hp => lv0 = lv ∧ m0 = m' ∧ hp = hp1
theorem MutS.imp {P : Program} {g : FuncId} {args : List LV} {m : Nat} {hp0 : List (Nat × Ent)} {R R' : LV → Nat → List (Nat × Ent) → Prop} (h : MutS P g args m hp0 R) (hR : ∀ lv m' hp1, R lv m' hp1 → R' lv m' hp1) : MutS P g args m hp0 R' :=
  ⟨h.fn, fun O nt ρ I a w vs h1 h2 h3 h4 h5 => (h.calls O nt ρ I a w vs h1 h2 h3 h4 h5).mono fun e W' ⟨v, lv, m', hp1, ρ', I', hr, rest⟩ => ⟨v, lv, m', hp1, ρ', I', hR _ _ _ hr, rest⟩⟩

@[reducible] def entryM (args : List LV) (m : Nat) (hp0 : List (Nat × Ent)) : LS := ⟨fun i => args.getD i .bad, hpL hp0, m, m⟩
def resLV : List LV → LV
  | [x] => x
  | xs => .tup xs
/-- what such a function's end has to tell -/
def MutPost (T : TT) (fn : Func) (m : Nat) (lv : LV) (m' : Nat) (hp1 : List (Nat × Ent)) (gl : List (Nat × Nat)) (e : Exit) (s : LS) : Prop := match e with
  | .normal | .ret => match mapO (resL T s) fn.results.toList with
    | some lvs => chk (Nat.ble m m' && (gl.all (fun p => Nat.blt p.1 m') && injL (names m gl) hp1)) (TellV (frz s (names m gl) hp1) (names m gl) (resLV lvs) lv ∧ TellHp (frz s (names m gl) hp1) (names m gl) s hp1)
    | none => False
  | _ => False
theorem chk_elim {b : Bool} {K : Prop} (h : chk b K) : b = true ∧ K := by unfold chk at h; exact h

theorem mutS_ofG (A : List (Nat × List Nat)) (hm : P.follows .mixedOrders = true) (hT : TOk P T) {g : FuncId} {fn : Func} {c : Code} (hf : P.funcs[g]? = some fn) (hb : fn.body = some c) (hn : (fn.name == "runtime.NumGoroutine") = false) (hc : codeOk fn.ntmps c = true)
    {args : List LV} {m : Nat} {hp0 : List (Nat × Ent)} {R : LV → Nat → List (Nat × Ent) → List (Nat × Nat) → Prop} (hl : Nat.ble args.length fn.ntmps = true) (h : lwp P T A c (entryM args m hp0) (fun e s => ∃ lv m' hp1 gl, R lv m' hp1 gl ∧ MutPost T fn m lv m' hp1 gl e s)) : MutS P g args m hp0 (fun lv m' hp1 => ∃ gl, R lv m' hp1 gl) := by
  refine ⟨⟨fn, hf, by simp [hb], hn⟩, fun O nt ρ I a w vs hO hF hR hvl hvr => ?_⟩
  have hl : args.length ≤ fn.ntmps := by simpa using hl
  refine calls_of_wp hf hb ?_
  generalize ha : ({ tmps := vs.toArray ++ Array.replicate (fn.ntmps - vs.toArray.size) undef, defers := [] } : Act) = a0
  have hget : ∀ i, i < vs.length → a0.tmps.getD i undef = vs.getD i undef := by
    intro i hi
    rw [← ha]
    have h1 : i < vs.length + (fn.ntmps - vs.length) := by omega
    simp [Array.getD, h1, List.getD, hi, Array.getElem_append]
  have hR0 : Rel O fn.ntmps ρ I (entryM args m hp0) a0 w := by
    refine ⟨fun i => ?_, hR.hp, hR.ow, hR.ds, hR.lt, by rw [← ha], by rw [← ha]; simp; omega, hR.gl⟩
    by_cases hi : i < args.length
    · rw [hget i (by omega)]
      exact hvr i hi
    · have : (entryM args m hp0).fr i = .bad := by simp [entryM, List.getD, List.getElem?_eq_none (Nat.not_lt.1 hi)]
      rw [this]
      exact .bad _
  refine lwp_sound hm hT c (entryM args m hp0) _ hc h ρ I a0 w hR0 hF (Nat.le_refl _) hO _ (fun e s' ρ' I' a' w' hq hR' hF' hlo hnx htr => ?_)
  have hpost : ∀ lv m' hp1 gl, R lv m' hp1 gl → MutPost T fn m lv m' hp1 gl .ret s' → bodyPost P fn (fun e w' => ∃ v lv m' hp1 ρ' I', (∃ gl, R lv m' hp1 gl) ∧ e = .returned v ∧ VR ρ' w' I' lv v ∧ Rel O nt ρ' I' ⟨fun _ => .bad, hpL hp1, m', m⟩ a w' ∧ (∀ k, k < m → ρ' k = ρ k) ∧ (∀ k, m' ≤ k → ρ' k = none) ∧ (∀ b, I b → I' b) ∧ (∀ b, I' b → I b ∨ O b) ∧ (∀ b, I b → w'.heap[b]? = w.heap[b]?) ∧ Step O w w') .ret a' w' := by
    intro lv m' hp1 gl hRl hq
    simp only [MutPost] at hq
    split at hq <;> (try (exact hq.elim))
    rename_i rl hrl
    obtain ⟨hck, hq1, hq2⟩ := chk_elim hq
    simp only [Bool.and_eq_true] at hck
    obtain ⟨hck0, hck1, hck2⟩ := hck
    have hmm : m ≤ m' := by simpa using hck0
    obtain ⟨vs', q1, q2, q3⟩ := run_results' (P := P) hT hR' hrl
    have hvx : VR ρ' w' I' (resLV rl) (resVal vs') := by
      match rl, vs', q1, q2 with
      | [], [], _, _ => exact .tup rfl (fun j hj => absurd hj (by simp))
      | [x], [v], _, q2 => simpa [resLV, resVal] using q2 0 (by simp)
      | x1 :: x2 :: xs, v1 :: v2 :: vs, q1, q2 =>
        refine .tup (by simpa using q1) (fun j hj => ?_)
        have := q2 j hj
        have h6 : j < (v1 :: v2 :: vs).length := by rw [q1]; exact hj
        rw [toArray_getD]; exact this
    obtain ⟨I2, j1, j2, j4, hT2⟩ := hR'.tell (fl := []) (nx := m') (lo := m) (show TellFr (frz s' (names m gl) hp1) (names m gl) s' [] from trivial) hq2 hck2
    refine ⟨hR'.df, _, q3, _, lv, m', hp1, (fun j => (names m gl j).bind ρ'), I2, ⟨gl, hRl⟩, rfl, j4 _ _ _ hq1 hvx, ⟨fun i => .bad _, hT2.hp, hT2.ow, hT2.ds, hT2.lt, hR.df, hR.sz, hT2.gl⟩, fun k hk => ?_, fun k hk => ?_, fun b hb => j1 b (htr.im b hb), fun b hb => (j2 b hb).elim (htr.im' b) .inr, htr.keep, htr.step⟩
    · have : Nat.blt k m = true := by simp [Nat.blt]; omega
      simp only [names, this, cond_true, Option.bind_some]
      exact htr.names k hk
    · have : Nat.blt k m = false := by rw [← Bool.not_eq_true]; simp [Nat.blt]; omega
      simp only [names, this, cond_false]
      cases hl : lookG gl k with
      | none => rfl
      | some k' =>
        obtain ⟨p, hp, rfl⟩ := lookG_some hl
        have := List.all_eq_true.1 hck1 p hp
        have : p.1 + 1 ≤ m' := by simpa [Nat.blt] using this
        omega
  obtain ⟨lv, m', hp1, gl, hRl, hq⟩ := hq
  cases e with
  | normal => exact hpost lv m' hp1 gl hRl hq
  | ret => exact hpost lv m' hp1 gl hRl hq
  | _ => exact hq.elim
theorem mut_of (A : List (Nat × List Nat)) (hm : P.follows .mixedOrders = true) (hT : TOk P T) {g : FuncId} {fn : Func} {c : Code} (hf : P.funcs[g]? = some fn) (hb : fn.body = some c) (hn : (fn.name == "runtime.NumGoroutine") = false) (hc : codeOk fn.ntmps c = true)
    {args : List LV} {m : Nat} {hp0 : List (Nat × Ent)} {lv : LV} {m' : Nat} {hp1 : List (Nat × Ent)} (hl : Nat.ble args.length fn.ntmps = true) (gl : List (Nat × Nat)) (h : lwp P T A c (entryM args m hp0) (MutPost T fn m lv m' hp1 gl)) : MutOK P g args m hp0 lv m' hp1 := by
  refine ⟨?_⟩
  refine (mutS_ofG (R := fun lv0 m0 hp gl0 => lv0 = lv ∧ m0 = m' ∧ hp = hp1 ∧ gl0 = gl) A hm hT hf hb hn hc hl ?_).imp (fun _ _ _ ⟨_, h1, h2, h3, _⟩ => ⟨h1, h2, h3⟩)
  have e : (fun (e : Exit) s => ∃ lv0 m0 hp gl0, (lv0 = lv ∧ m0 = m' ∧ hp = hp1 ∧ gl0 = gl) ∧ MutPost T fn m lv0 m0 hp gl0 e s) = MutPost T fn m lv m' hp1 gl := by
    funext e s
    exact propext ⟨fun ⟨_, _, _, _, ⟨h1, h2, h3, h4⟩, hq⟩ => by subst h1 h2 h3 h4; exact hq, fun h => ⟨_, _, _, _, ⟨rfl, rfl, rfl, rfl⟩, h⟩⟩
  rw [e]
  exact h
theorem mutS_of (A : List (Nat × List Nat)) (hm : P.follows .mixedOrders = true) (hT : TOk P T) {g : FuncId} {fn : Func} {c : Code} (hf : P.funcs[g]? = some fn) (hb : fn.body = some c) (hn : (fn.name == "runtime.NumGoroutine") = false) (hc : codeOk fn.ntmps c = true)
    {args : List LV} {m : Nat} {hp0 : List (Nat × Ent)} {R : LV → Nat → List (Nat × Ent) → Prop} (hl : Nat.ble args.length fn.ntmps = true) (h : lwp P T A c (entryM args m hp0) (fun e s => ∃ lv m' hp1 gl, R lv m' hp1 ∧ MutPost T fn m lv m' hp1 gl e s)) : MutS P g args m hp0 R :=
  (mutS_ofG (R := fun lv m' hp1 _ => R lv m' hp1) A hm hT hf hb hn hc hl h).imp (fun _ _ _ ⟨_, h⟩ => h)

/-! ## such a call, in its caller's memory -/
def idxOf? : List Nat → Nat → Nat → Option Nat
  | [], _, _ => none
  | x :: xs, i, k => bif Nat.beq k x then some i else idxOf? xs (i + 1) k
def entsO (s : LS) (G : Nat → Option Nat) : Nat → List Nat → Option (List (Nat × Ent))
  | _, [] => some []
  | i, k :: ks => match s.hp k with
    | some e => match entsO s G (i + 1) ks with
      | some r => some ((i, renE G e) :: r)
      | none => none
    | none => none
/-- the caller's names -/
def upN (keys : List Nat) (m kb : Nat) (j : Nat) : Option Nat := bif Nat.blt j m then keys[j]? else bif Nat.blt j (m + 32) then some (kb + (j - m)) else none
def upH (F : Nat → Option Nat) : List (Nat × Ent) → List (Nat × Ent)
  | [] => []
  | (j, e) :: r => match F j with
    | some k => (k, renE F e) :: upH F r
    | none => upH F r
def ndN : List (Nat × Ent) → Bool
  | [] => true
  | (j, _) :: r => r.all (fun p => !(Nat.beq p.1 j)) && ndN r
def ndK : List Nat → Bool
  | [] => true
  | k :: ks => !(isIn ks k) && ndK ks
def mutS (keys : List Nat) (m kb : Nat) (hp1 : List (Nat × Ent)) (s : LS) : LS :=
  { s with hp := fun k => bif isIn keys k || blkOf kb k then hpL (upH (upN keys m kb) hp1) k else s.hp k }

theorem idxOf_spec : ∀ {ks : List Nat} {i k j : Nat}, idxOf? ks i k = some j → i ≤ j ∧ ks[j - i]? = some k
  | [], i, k, j, h => by simp [idxOf?] at h
  | x :: xs, i, k, j, h => by
    simp only [idxOf?] at h
    cases hb : Nat.beq k x with
    | true =>
      rw [hb, cond_true] at h
      obtain rfl := Option.some.inj h
      have : k = x := by simpa using hb
      simp [this]
    | false =>
      rw [hb, cond_false] at h
      obtain ⟨h1, h2⟩ := idxOf_spec h
      refine ⟨by omega, ?_⟩
      rw [show j - i = (j - (i + 1)) + 1 by omega]
      simpa using h2

theorem entsO_spec {G : Nat → Option Nat} : ∀ {ks : List Nat} {i : Nat} {r : List (Nat × Ent)}, entsO s G i ks = some r → ∀ j e0, hpL r j = some e0 → i ≤ j ∧ ∃ k e, ks[j - i]? = some k ∧ s.hp k = some e ∧ e0 = renE G e
  | [], i, r, h, j, e0, hj => by simp [entsO] at h; subst h; simp [hpL] at hj
  | k :: ks, i, r, h, j, e0, hj => by
    simp only [entsO] at h
    split at h <;> (try (simp at h; done))
    rename_i e he
    split at h <;> (try (simp at h; done))
    rename_i r' hr
    obtain rfl := Option.some.inj h
    simp only [hpL] at hj
    cases hb : Nat.beq j i with
    | true =>
      obtain rfl : j = i := by simpa using hb
      rw [hb, cond_true] at hj
      obtain rfl := Option.some.inj hj
      exact ⟨Nat.le_refl _, k, e, by simp, he, rfl⟩
    | false =>
      rw [hb, cond_false] at hj
      obtain ⟨h1, k', e', h2, h3, h4⟩ := entsO_spec hr j e0 hj
      refine ⟨by omega, k', e', ?_, h3, h4⟩
      rw [show j - i = (j - (i + 1)) + 1 by omega]
      simpa using h2
theorem entsO_all {G : Nat → Option Nat} : ∀ {ks : List Nat} {i : Nat} {r : List (Nat × Ent)}, entsO s G i ks = some r → ∀ k ∈ ks, ∃ e, s.hp k = some e
  | [], i, r, h, k, hk => by simp at hk
  | x :: ks, i, r, h, k, hk => by
    simp only [entsO] at h
    split at h <;> (try (simp at h; done))
    rename_i e he
    split at h <;> (try (simp at h; done))
    rename_i r' hr
    rcases List.mem_cons.1 hk with rfl | hk
    · exact ⟨e, he⟩
    · exact entsO_all hr k hk

theorem upH_spec {F : Nat → Option Nat} : ∀ {l : List (Nat × Ent)} {k : Nat} {e' : Ent}, hpL (upH F l) k = some e' → ∃ j e, (j, e) ∈ l ∧ F j = some k ∧ e' = renE F e
  | [], k, e', h => by simp [upH, hpL] at h
  | (j, e) :: r, k, e', h => by
    simp only [upH] at h
    cases hF : F j with
    | none =>
      rw [hF] at h
      obtain ⟨j', e1, h1, h2, h3⟩ := upH_spec h
      exact ⟨j', e1, by simp [h1], h2, h3⟩
    | some k' =>
      rw [hF] at h
      simp only [hpL] at h
      cases hb : Nat.beq k k' with
      | true =>
        obtain rfl : k = k' := by simpa using hb
        rw [hb, cond_true] at h
        obtain rfl := Option.some.inj h
        exact ⟨j, e, by simp, hF, rfl⟩
      | false =>
        rw [hb, cond_false] at h
        obtain ⟨j', e1, h1, h2, h3⟩ := upH_spec h
        exact ⟨j', e1, by simp [h1], h2, h3⟩
theorem ndN_get : ∀ {l : List (Nat × Ent)}, ndN l = true → ∀ j e, (j, e) ∈ l → hpL l j = some e
  | [], _, j, e, h => by simp at h
  | (i, x) :: r, hn, j, e, h => by
    simp only [ndN, Bool.and_eq_true] at hn
    simp only [hpL]
    rcases List.mem_cons.1 h with h | h
    · obtain ⟨rfl, rfl⟩ := Prod.mk.inj h
      simp
    · have := List.all_eq_true.1 hn.1 (j, e) h
      simp only [Bool.not_eq_true'] at this
      rw [this, cond_false]
      exact ndN_get hn.2 j e h
theorem ndK_get : ∀ {l : List Nat}, ndK l = true → ∀ (i j k : Nat), l[i]? = some k → l[j]? = some k → i = j
  | [], _, i, j, k, h, _ => by simp at h
  | x :: xs, hn, i, j, k, h1, h2 => by
    simp only [ndK, Bool.and_eq_true, Bool.not_eq_true'] at hn
    have key : ∀ q, xs[q]? = some x → False := fun q hq => by
      have := isIn_iff.2 (List.mem_of_getElem? hq)
      rw [hn.1] at this; simp at this
    cases i <;> cases j
    · rfl
    · rename_i j
      simp at h1 h2; subst h1
      exact (key j h2).elim
    · rename_i i
      simp at h1 h2; subst h2
      exact (key i h1).elim
    · rename_i i j
      simp at h1 h2
      rw [ndK_get hn.2 i j k h1 h2]

theorem inl_of_mut {g : FuncId} {args0 : List LV} {m : Nat} {hp0 : List (Nat × Ent)} {R : LV → Nat → List (Nat × Ent) → Prop} (hM : MutS P g args0 m hp0 R) {args : List LV} {kb : Nat} (keys : List Nat) (h1 : renOs (idxOf? keys 0) args = args0) (h2 : entsO s (idxOf? keys 0) 0 keys = some hp0)
    (h3 : (Nat.beq keys.length m && ndK keys) = true) {K : LV → LS → Prop} (hK : ∀ lv m' hp1, R lv m' hp1 → (ndN hp1 && Nat.ble m' (m + 32)) = true ∧ K (renO (upN keys m kb) lv) (mutS keys m kb hp1 s)) : InlOK P g args s kb K := by
  simp only [Bool.and_eq_true, Nat.beq_eq] at h3
  obtain ⟨hlen, hnk⟩ := h3
  refine ⟨hM.fn, fun O nt ρ I a w vs hO hF hfree hlt hR hvl hvr => ?_⟩
  have hO' : ∀ g, w.heap.size ≤ g → Onot O ρ w s keys g := fun g hg => ⟨hO g hg, fun ⟨k, e, v, _, he, hv, hb⟩ => absurd (hR.ow k e v g he hv hb).2.2 (by omega)⟩
  have hsome : ∀ k e, s.hp k = some e → ∃ v, ρ k = some v := by
    intro k e he
    have := hR.hp k e he
    exact this.named
  have hR1 := hR.restr [] keys
  have hidx : ∀ (k j : Nat), idxOf? keys 0 k = some j → keys[j]? = some k := fun k j h => by simpa using (idxOf_spec h).2
  have hg1 : ∀ k j v, idxOf? keys 0 k = some j → ρ k = some v → (fun j => (keys[j]?).bind ρ) j = some v := fun k j v hk hv => by simp [hidx k j hk, hv]
  have hin : ∀ (j k : Nat), keys[j]? = some k → isIn keys k = true := fun j k h => isIn_iff.2 (List.mem_of_getElem? h)
  have hRc : Rel (Onot O ρ w s keys) nt (fun j => (keys[j]?).bind ρ) I ⟨fun _ => .bad, hpL hp0, m, m⟩ a w := by
    have src : ∀ j e0, hpL hp0 j = some e0 → ∃ k e, keys[j]? = some k ∧ s.hp k = some e ∧ (restr s [] keys).hp k = some e ∧ e0 = renE (idxOf? keys 0) e := by
      intro j e0 hj
      obtain ⟨_, k, e, q1, q2, q3⟩ := entsO_spec h2 j e0 hj
      refine ⟨k, e, by simpa using q1, q2, ?_, q3⟩
      simp only [restr, hin j k (by simpa using q1), cond_true]
      exact q2
    refine ⟨fun i => .bad _, fun j e0 hj => ?_, fun j e0 v g hj hv hg => ?_, fun j j' e e' v v' g hj hj' hv hv' hg hg' => ?_, hR.lt, hR.df, hR.sz, hR.gl⟩
    · obtain ⟨k, e, q1, q2, q3, rfl⟩ := src j e0 hj
      exact (hR.hp k e q2).ren hg1 (fun v hv => by simp [q1, hv])
    · obtain ⟨k, e, q1, q2, q3, rfl⟩ := src j e0 hj
      simp only [q1, Option.bind_some] at hv
      exact hR1.ow k e v g q3 hv (foot_ren.1 hg)
    · obtain ⟨k, e1, q1, q2, q3, rfl⟩ := src j e hj
      obtain ⟨k', e2, r1, r2, r3, rfl⟩ := src j' e' hj'
      simp only [q1, r1, Option.bind_some] at hv hv'
      have := hR.ds k k' e1 e2 v v' g q2 r2 hv hv' (foot_ren.1 hg) (foot_ren.1 hg')
      subst this
      exact ndK_get hnk j j' k q1 r1
  have hal : args.length = args0.length := by rw [← h1]; exact (renOs_get args).1.symm
  refine (hM.calls _ nt _ I a w vs hO' (fun k hk => by simp [List.getElem?_eq_none (show keys.length ≤ k by omega)]) hRc (by rw [hvl, hal]) (fun j hj => by
      rw [← h1, (renOs_get args).2]
      exact (hvr j (by omega)).ren hg1)).mono ?_
  rintro e w' ⟨v, lv, m', hp1, ρ1, I1, hRl, rfl, q1, q2, q3, q4, q5, q6, q7, q8⟩
  obtain ⟨hch, hK⟩ := hK lv m' hp1 hRl
  simp only [Bool.and_eq_true] at hch
  obtain ⟨hnn, hm32⟩ := hch
  have hm32 : m' ≤ m + 32 := by simpa using hm32
  have hkb : ∀ (j k : Nat), keys[j]? = some k → ¬ (kb ≤ k ∧ k < kb + 32) := by
    intro j k hk hb
    obtain ⟨e, he⟩ := entsO_all h2 k (List.mem_of_getElem? hk)
    obtain ⟨v, hv⟩ := hsome k e he
    rw [hfree k hb.1 hb.2] at hv
    simp at hv
  generalize hρ' : (fun k => if kb ≤ k ∧ k < kb + 32 then ρ1 (m + (k - kb)) else ρ k : Nat → Option Value) = ρ'
  have hF2 : ∀ j k v, upN keys m kb j = some k → ρ1 j = some v → ρ' k = some v := by
    intro j k v hj hv
    rw [← hρ']
    unfold upN at hj
    cases hb : Nat.blt j m with
    | true =>
      rw [hb, cond_true] at hj
      have hjm : j < m := by have : j + 1 ≤ m := by simpa [Nat.blt] using hb
                             omega
      have := q3 j hjm
      simp only [hj, Option.bind_some] at this
      show (if kb ≤ k ∧ k < kb + 32 then _ else _) = _
      rw [if_neg (hkb j k hj), ← this, hv]
    | false =>
      rw [hb, cond_false] at hj
      cases hb2 : Nat.blt j (m + 32) with
      | false => rw [hb2, cond_false] at hj; simp at hj
      | true =>
        rw [hb2, cond_true] at hj
        obtain rfl := Option.some.inj hj
        have h6 : ¬ j + 1 ≤ m := by
          intro h; have : Nat.blt j m = true := by simp [Nat.blt]; omega
          rw [hb] at this; simp at this
        have h7 : j + 1 ≤ m + 32 := by simpa [Nat.blt] using hb2
        show (if kb ≤ kb + (j - m) ∧ kb + (j - m) < kb + 32 then _ else _) = _
        rw [if_pos (by omega), show m + (kb + (j - m) - kb) = j by omega, hv]
  have hinj : ∀ i j k, upN keys m kb i = some k → upN keys m kb j = some k → i = j := by
    intro i j k hi hj
    have cls : ∀ i, upN keys m kb i = some k → (keys[i]? = some k ∧ ¬ (kb ≤ k ∧ k < kb + 32)) ∨ (m ≤ i ∧ i < m + 32 ∧ k = kb + (i - m)) := by
      intro i hi
      unfold upN at hi
      cases hb : Nat.blt i m with
      | true => rw [hb, cond_true] at hi; exact .inl ⟨hi, hkb i k hi⟩
      | false =>
        rw [hb, cond_false] at hi
        cases hb2 : Nat.blt i (m + 32) with
        | false => rw [hb2, cond_false] at hi; simp at hi
        | true =>
          rw [hb2, cond_true] at hi
          obtain rfl := Option.some.inj hi
          have h6 : ¬ i + 1 ≤ m := by
            intro h; have : Nat.blt i m = true := by simp [Nat.blt]; omega
            rw [hb] at this; simp at this
          have h7 : i + 1 ≤ m + 32 := by simpa [Nat.blt] using hb2
          exact .inr ⟨by omega, by omega, rfl⟩
    rcases cls i hi with ⟨h, h'⟩ | ⟨h, h', h''⟩ <;> rcases cls j hj with ⟨r, r'⟩ | ⟨r, r', r''⟩
    · exact ndK_get hnk i j k h r
    · omega
    · omega
    · omega
  have hR2 : Rel (Onot O ρ w s keys) nt ρ' I1 ⟨fun _ => .bad, hpL (upH (upN keys m kb) hp1), s.nx, s.lo⟩ a w' := by
    have src : ∀ k e', hpL (upH (upN keys m kb) hp1) k = some e' → ∃ j e, hpL hp1 j = some e ∧ upN keys m kb j = some k ∧ e' = renE (upN keys m kb) e := by
      intro k e' hk
      obtain ⟨j, e, r1, r2, r3⟩ := upH_spec hk
      exact ⟨j, e, ndN_get hnn j e r1, r2, r3⟩
    have back : ∀ j e k v, hpL hp1 j = some e → upN keys m kb j = some k → ρ' k = some v → ρ1 j = some v := by
      intro j e k v hj hk hv
      have := q2.hp j e hj
      have : ∃ u, ρ1 j = some u := by
        exact this.named
      obtain ⟨u, hu⟩ := this
      rw [hF2 j k u hk hu] at hv
      rw [hu, hv]
    refine ⟨fun i => .bad _, fun k e' hk => ?_, fun k e' v g hk hv hg => ?_, fun k k' e e' v v' g hk hk' hv hv' hg hg' => ?_, q2.lt, hR.df, hR.sz, q2.gl⟩
    · obtain ⟨j, e, r1, r2, rfl⟩ := src k e' hk
      exact (q2.hp j e r1).ren hF2 (fun v hv => hF2 j k v r2 hv)
    · obtain ⟨j, e, r1, r2, rfl⟩ := src k e' hk
      exact q2.ow j e v g r1 (back j e k v r1 r2 hv) (foot_ren.1 hg)
    · obtain ⟨j, e1, r1, r2, rfl⟩ := src k e hk
      obtain ⟨j', e2, p1, p2, rfl⟩ := src k' e' hk'
      have := q2.ds j j' e1 e2 v v' g r1 p1 (back j e1 k v r1 r2 hv) (back j' e2 k' v' p1 p2 hv') (foot_ren.1 hg) (foot_ren.1 hg')
      subst this
      rw [r2] at p2
      exact Option.some.inj p2
  have hn : ∀ k, ¬ (kb ≤ k ∧ k < kb + 32) → k < s.nx → ρ' k = ρ k := fun k hk _ => by rw [← hρ']; exact if_neg hk
  have hfin := hR.merge (kb := kb) (ts := []) (X := keys) (wr := true) (dst := none) hR2 hn hfree hF q5 q6 q7 q8 (fun _ _ => rfl) (fun h => by simp at h)
  have hms : merge none kb true keys s ⟨fun _ => .bad, hpL (upH (upN keys m kb) hp1), s.nx, s.lo⟩ = mutS keys m kb hp1 s := by
    simp only [merge, mutS, Bool.true_and]
  rw [hms] at hfin
  exact ⟨v, _, _, ρ', I1, rfl, hK, q1.ren hF2, hfin, hn, fun k hk => by rw [← hρ']; exact (if_neg (by omega)).trans (hF k hk), rfl, rfl, q5, fun b hb => (q6 b hb).imp id (·.1), q7, ⟨q8.os, q8.tape, q8.output, q8.size, fun b hb hl => q8.keep b (fun h => hb h.1) hl⟩⟩

/-- the names that a call leads to -/
def footK (s : LS) (args : List LV) : List Nat := (closeK s 100 (args.flatMap keysV) []).reverse
/-- such a call, its names written out -/
def useM (P : Program) (g : FuncId) (args : List LV) (s : LS) (kb : Nat) (K : LV → LS → Prop) : Prop :=
  forceList (fun k K => K k) (footK s args) fun keys => ∃ args0 m hp0 lv m' hp1, renOs (idxOf? keys 0) args = args0 ∧ entsO s (idxOf? keys 0) 0 keys = some hp0 ∧ MutOK P g args0 m hp0 lv m' hp1 ∧ (Nat.beq keys.length m && (ndK keys && (ndN hp1 && Nat.ble m' (m + 32)))) = true ∧ K (renO (upN keys m kb) lv) (mutS keys m kb hp1 s)
theorem use_mut {g : FuncId} {args : List LV} {kb : Nat} {K : LV → LS → Prop} (h : useM P g args s kb K) : InlOK P g args s kb K := by
  have h := forceList_iff (f := fun k K => K k) (fun _ _ h => h) h
  obtain ⟨args0, m, hp0, lv, m', hp1, h1, h2, h3, h4, h5⟩ := h
  simp only [Bool.and_eq_true] at h4
  exact inl_of_mut h3.some _ h1 h2 (by simp only [Bool.and_eq_true]; exact ⟨h4.1, h4.2.1⟩) (fun lv0 m0 hp h => by obtain ⟨rfl, rfl, rfl⟩ := h; exact ⟨by simp only [Bool.and_eq_true]; exact h4.2.2, h5⟩)
/-- such a call, what it leaves not told but for what holds of it -/
def useMS (P : Program) (g : FuncId) (args : List LV) (s : LS) (kb : Nat) (K : LV → LS → Prop) : Prop :=
  forceList (fun k K => K k) (footK s args) fun keys => ∃ args0 m hp0 R, renOs (idxOf? keys 0) args = args0 ∧ entsO s (idxOf? keys 0) 0 keys = some hp0 ∧ MutS P g args0 m hp0 R ∧ (Nat.beq keys.length m && ndK keys) = true ∧ ∀ lv m' hp1, R lv m' hp1 → (ndN hp1 && Nat.ble m' (m + 32)) = true ∧ K (renO (upN keys m kb) lv) (mutS keys m kb hp1 s)
theorem use_mutS {g : FuncId} {args : List LV} {kb : Nat} {K : LV → LS → Prop} (h : useMS P g args s kb K) : InlOK P g args s kb K := by
  have h := forceList_iff (f := fun k K => K k) (fun _ _ h => h) h
  obtain ⟨args0, m, hp0, R, h1, h2, h3, h4, h5⟩ := h
  exact inl_of_mut h3 _ h1 h2 h4 h5
/-- a call by value, its answer not told but for what holds of it -/
theorem use_fn {g : FuncId} {args : List LV} {kb : Nat} {K : LV → LS → Prop} (h : ∃ lvs R, mapO (snap s) args = some lvs ∧ FnS P g lvs R ∧ ∀ r, R r → Nat.ble r.leaves.length 32 = true ∧ K (r.lv kb) { s with hp := hpAfter s kb args r }) : InlOK P g args s kb K := by
  obtain ⟨lvs, R, hsn, hfn, hK⟩ := h
  refine ⟨hfn.fn, fun O nt ρ I a w vs hO hF hfree hlt hR hvl hvr => ?_⟩
  obtain ⟨m1, m2⟩ := mapO_get hsn
  refine (hfn.calls w (Used ρ w I s (args.flatMap (keysOf s))) vs ⟨fun b hb => by
      rcases hb with hb | ⟨k, e, v, _, q1, q2, q3⟩
      · exact hR.lt b hb
      · exact (hR.ow k e v b q1 q2 q3).2.2, hR.gl.mono (fun _ hb => .inl hb) (fun _ _ => rfl)⟩ (by rw [m1, ← hvl]) (fun j hj => by
      have hj' : j < args.length := by rw [← m1]; exact hj
      obtain ⟨y, hy1, hy2⟩ := m2 j _ (get_of_lt hj' .bad)
      rw [getD_some hy1]
      exact snap_sound hR (hvr j hj') hy2 (fun k hk => List.mem_flatMap.2 ⟨_, List.mem_of_getElem? (get_of_lt hj' .bad), hk⟩))).mono ?_
  rintro e W' ⟨v, r, rfl, hB, hRr, hrr⟩
  obtain ⟨hlen, hK⟩ := hK r hRr
  have hlen : r.leaves.length ≤ 32 := by simpa using hlen
  obtain ⟨ρ', I', r1, r2, _, r3, r4, r7, r5, r6⟩ := call_rel0 (kb := kb) hR hO hB hrr (fun i hi => hfree _ (by omega) (by omega))
  exact ⟨v, _, _, ρ', I', rfl, hK, r2, r1, fun k hk1 hk2 => r3 k (by omega), fun k hk => by rw [r3 k (by omega)]; exact hF k hk, rfl, rfl, r4, r7, r5, r6⟩
end
end Go.Proofs.YtojaakpnpdnbhaaGreatDoor.L
