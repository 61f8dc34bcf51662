/- Calls in the symbolic logic: arguments by value, results as data; and calls that are walked into. -/
import Derived.Test.YtojaakpnpdnbhaaGreatDoorLh
set_option linter.unusedVariables false
set_option linter.unusedSimpArgs false
namespace Go.Proofs.YtojaakpnpdnbhaaGreatDoor.L
open Go.RowKit

/-- the rows that a row of rows has given out -/
def holeKeys : List (Nat × NE) → List Nat
  | [] => []
  | (_, .hole k) :: r => k :: holeKeys r
  | _ :: r => holeKeys r
/-- all elements of a row of rows can be read -/
def nestOk (s : LS) : List (Nat × NE) → Bool
  | [] => true
  | (_, .hole k) :: r => (match s.hp k with | some (.row _ _ _ _) => true | _ => false) && nestOk s r
  | (_, .dat _) :: r => nestOk s r
  | _ => false
/-- an element of a row of rows, read as data -/
def nestEl (s : LS) (L : Nat → Nat) (f : Nat → Nat → List D) (ov : List (Nat × NE)) (i : Nat) : List D := match nOf L f ov i with
  | .own m h => [.l m h]
  | .hole k => match s.hp k with
    | some (.row _ _ m h) => [.l m h]
    | _ => []
  | .dat x => [x]
  | .any => []
def keysR (s : LS) (k : Nat) : List Nat := match s.hp k with
  | some (.nest _ _ _ _ _ _ ov) => holeKeys ov
  | _ => []
def snapD (s : LS) : LV → Option D
  | .d x => some x
  | .row k => match s.hp k with
    | some (.row _ _ n f) => some (.l n f)
    | some (.nest _ _ _ n L f []) => some (.l n (fun i => [.l (L i) (f i)]))
    | some (.nest _ _ _ n L f ov) => bif nestOk s ov then some (.l n (nestEl s L f ov)) else none
    | _ => none
  | _ => none
/-- a cell that points to data -/
def ptrD : List LV → Option LV
  | [.dptr ds] => some (.pptr ds)
  | _ => none
def snap1 (s : LS) : LV → Option LV
  | .d x => some (.d x)
  | .row k => match s.hp k with
    | some (.row _ _ n f) => some (.d (.l n f))
    | some (.nest _ _ _ n L f []) => some (.d (.l n (fun i => [.l (L i) (f i)])))
    | some (.nest _ _ _ n L f ov) => bif nestOk s ov then some (.d (.l n (nestEl s L f ov))) else none
    | _ => none
  | .dptr cs => some (.dptr cs)
  | .pptr cs => some (.pptr cs)
  | .sub k sz' lo hi => match s.hp k with
    | some (.row _ sz n f) => bif Nat.beq sz sz' && (Nat.blt lo hi && Nat.ble hi n) then some (.d (.l (hi - lo) (fun i => f (lo + i)))) else none
    | _ => none
  | .ptr k off => match s.hp k with
    | some (.box _ cs) => match mapO (snapD s) (cs.drop off) with
      | some ds => some (.dptr ds)
      | none => ptrD (cs.drop off)
    | _ => none
  | .agg cs => match mapO (snapD s) cs with
    | some ds => some (.agg (ds.map .d))
    | none => none
  | _ => none
/-- an argument by value -/
def snap (s : LS) : LV → Option LV
  | .fn f caps => match mapO (snap1 s) caps with
    | some cs => some (.fn f cs)
    | none => none
  | x => snap1 s x
def keysRL (s : LS) : LV → List Nat
  | .row k => k :: keysR s k
  | _ => []
def keys1 (s : LS) : LV → List Nat
  | .row k => k :: keysR s k
  | .sub k _ _ _ => [k]
  | .ptr k _ => k :: match s.hp k with
    | some (.box _ cs) => cs.flatMap (keysRL s)
    | _ => []
  | .agg cs => cs.flatMap (keysRL s)
  | _ => []
def keysOf (s : LS) : LV → List Nat
  | .fn _ caps => caps.flatMap (keys1 s)
  | x => keys1 s x

/-- a result's cell: a plain value, data that may be shared, a row that is the caller's own from then on -/
inductive RC where
  | v (x : Value)
  | sh (x : D)
  | own (e : TypeId) (sz n : Nat) (f : Nat → List D)
  | ownn (eo ei : TypeId) (sz n : Nat) (L : Nat → Nat) (f : Nat → Nat → List D)
inductive RV1 where
  | one (c : RC)
  | agg (cs : List RC)
inductive RV where
  | r (x : RV1)
  | tup (xs : List RV1)

def RV1.leaves : RV1 → List RC
  | .one c => [c]
  | .agg cs => cs
def leavesT : List RV1 → List RC
  | [] => []
  | x :: xs => x.leaves ++ leavesT xs
def RV.leaves : RV → List RC
  | .r x => x.leaves
  | .tup xs => leavesT xs
def RV1.val (us : List Value) (j : Nat) : RV1 → Value
  | .one _ => us.getD j undef
  | .agg cs => .agg ((List.range cs.length).map fun i => us.getD (j + i) undef).toArray
def tvals (us : List Value) : Nat → List RV1 → List Value
  | _, [] => []
  | j, x :: xs => x.val us j :: tvals us (j + x.leaves.length) xs
def RV.val (us : List Value) : RV → Value
  | .r x => x.val us 0
  | .tup xs => .tuple (tvals us 0 xs).toArray
def lf (kb j : Nat) : RC → LV
  | .v x => .d (.v x)
  | .sh x => .d x
  | .own _ _ _ _ => .row (kb + j)
  | .ownn _ _ _ _ _ _ => .row (kb + j)
def lfs (kb : Nat) : Nat → List RC → List LV
  | _, [] => []
  | j, c :: cs => lf kb j c :: lfs kb (j + 1) cs
def RV1.lv (kb j : Nat) : RV1 → LV
  | .one c => lf kb j c
  | .agg cs => .agg (lfs kb j cs)
def tlvs (kb : Nat) : Nat → List RV1 → List LV
  | _, [] => []
  | j, x :: xs => x.lv kb j :: tlvs kb (j + x.leaves.length) xs
def RV.lv (kb : Nat) : RV → LV
  | .r x => x.lv kb 0
  | .tup xs => .tup (tlvs kb 0 xs)
def entOf : RC → Option Ent
  | .own e sz n f => some (.row e sz n f)
  | .ownn eo ei sz n L f => some (.nest eo ei sz n L f [])
  | _ => none
def isOwn : RC → Bool
  | .own _ _ _ _ => true
  | .ownn _ _ _ _ _ _ => true
  | _ => false
def isSh : RC → Bool
  | .sh _ => true
  | _ => false
def addOwn (kb : Nat) : Nat → List RC → (Nat → Option Ent) → (Nat → Option Ent)
  | _, [], hp => hp
  | j, .own e sz n f :: cs, hp => addOwn kb (j + 1) cs (upd hp (kb + j) (some (.row e sz n f)))
  | j, .ownn eo ei sz n L f :: cs, hp => addOwn kb (j + 1) cs (upd hp (kb + j) (some (.nest eo ei sz n L f [])))
  | j, .v _ :: cs, hp => addOwn kb (j + 1) cs hp
  | j, .sh _ :: cs, hp => addOwn kb (j + 1) cs hp
def dropKeys : List Nat → (Nat → Option Ent) → (Nat → Option Ent)
  | [], hp => hp
  | k :: ks, hp => dropKeys ks (upd hp k none)

/-- a value that is the caller's own from then on -/
def OwnOK (W : World) (base : Nat) (J : Nat → Prop) (u : Value) (e : Ent) : Prop := ER (fun _ => some u) W J 0 e ∧ (∀ g, foot W u e g → base ≤ g ∧ g < W.heap.size) ∧ ∃ A n c, u = .slice A n c
/-- what a result tells -/
def RCok (W : World) (base : Nat) (J : Nat → Prop) (u : Value) (c : RC) : Prop := match c with
  | .v x => u = x
  | .sh x => Rd W J x u
  | c => ∀ e, entOf c = some e → OwnOK W base J u e
/-- a thing that leads to no other name -/
def closed : Ent → Bool
  | .row _ _ _ _ => true
  | .nest _ _ _ _ _ _ [] => true
  | _ => false
theorem entOf_closed {c : RC} {e : Ent} (h : entOf c = some e) : closed e = true := by
  cases c <;> simp [entOf] at h <;> (subst h; rfl)
theorem ER.at {ρ ρ' : Nat → Option Value} {W : World} {J : Nat → Prop} {k k' : Nat} {e : Ent} (he : closed e = true) (h : ER ρ W J k e) (hk : ∀ v, ρ k = some v → ρ' k' = some v) : ER ρ' W J k' e := by
  cases e with
  | box => simp [closed] at he
  | map => simp [closed] at he
  | row e sz n f =>
    obtain ⟨h0, v, xs, h1, r⟩ := h
    exact ⟨h0, v, xs, hk _ h1, r⟩
  | nest eo ei sz n L f ov =>
    cases ov with
    | cons => simp [closed] at he
    | nil =>
      obtain ⟨h0, v, xs, h1, h2, h3, h4, r⟩ := h
      exact ⟨h0, v, xs, hk _ h1, h2, h3, h4, r⟩

structure RR (W : World) (base : Nat) (F : Nat → Prop) (r : RV) (v : Value) : Prop where
  ex : ∃ (us : List Value) (J : Nat → Prop), us.length = r.leaves.length ∧ v = r.val us ∧ (∀ b, J b → (r.leaves.any isSh = true ∧ F b) ∨ base ≤ b ∧ b < W.heap.size) ∧
    (∀ j c, r.leaves[j]? = some c → RCok W base J (us.getD j undef) c) ∧
    (∀ j c e g, r.leaves[j]? = some c → entOf c = some e → foot W (us.getD j undef) e g → ¬ J g) ∧
    (∀ i j c d e e' g, r.leaves[i]? = some c → r.leaves[j]? = some d → entOf c = some e → entOf d = some e' → foot W (us.getD i undef) e g → foot W (us.getD j undef) e' g → i = j)

def noRef (ρ : Nat → Option Value) : Prop := ∀ k, ρ k = none

/-- The function takes these arguments by value and tells this; of what was there nothing turns. -/
structure FnOK (P : Program) (g : FuncId) (lvs : List LV) (r : RV) : Prop where
  fn : ∃ fn, P.funcs[g]? = some fn ∧ fn.body.isSome = true ∧ (fn.name == "runtime.NumGoroutine") = false
  calls : ∀ (W : World) (F : Nat → Prop) (vs : List Value), (∀ b, F b → b < W.heap.size) ∧ GlOK F W → vs.length = lvs.length → (∀ j, j < lvs.length → VR (fun _ => none) W F (lvs.getD j .bad) (vs.getD j undef)) →
    Calls P g vs.toArray W fun e W' => ∃ v, e = .returned v ∧ Below W.heap.size W W' ∧ RR W' W.heap.size F r v

/-- The same, the answer not told but for what holds of it. -/
structure FnS (P : Program) (g : FuncId) (lvs : List LV) (R : RV → Prop) : Prop where
  fn : ∃ fn, P.funcs[g]? = some fn ∧ fn.body.isSome = true ∧ (fn.name == "runtime.NumGoroutine") = false
  calls : ∀ (W : World) (F : Nat → Prop) (vs : List Value), (∀ b, F b → b < W.heap.size) ∧ GlOK F W → vs.length = lvs.length → (∀ j, j < lvs.length → VR (fun _ => none) W F (lvs.getD j .bad) (vs.getD j undef)) →
    Calls P g vs.toArray W fun e W' => ∃ v r, e = .returned v ∧ Below W.heap.size W W' ∧ R r ∧ RR W' W.heap.size F r v
theorem FnOK.some {P : Program} {g : FuncId} {lvs : List LV} {r : RV} (h : FnOK P g lvs r) : FnS P g lvs (fun x => x = r) :=
  ⟨h.fn, fun W F vs h1 h2 h3 => (h.calls W F vs h1 h2 h3).mono fun e W' ⟨v, e1, e2, e3⟩ => ⟨v, r, e1, e2, rfl, e3⟩⟩
theorem FnS.one {P : Program} {g : FuncId} {lvs : List LV} {r : RV} (h : FnS P g lvs (fun x => x = r)) : FnOK P g lvs r :=
  ⟨h.fn, fun W F vs h1 h2 h3 => (h.calls W F vs h1 h2 h3).mono fun e W' ⟨v, r', e1, e2, e4, e3⟩ => ⟨v, e1, e2, e4 ▸ e3⟩⟩
theorem FnS.imp {P : Program} {g : FuncId} {lvs : List LV} {R R' : RV → Prop} (h : FnS P g lvs R) (hR : ∀ r, R r → R' r) : FnS P g lvs R' :=
  ⟨h.fn, fun W F vs h1 h2 h3 => (h.calls W F vs h1 h2 h3).mono fun e W' ⟨v, r', e1, e2, e4, e3⟩ => ⟨v, r', e1, e2, hR _ e4, e3⟩⟩

/-- names only from n on are free -/
def Fresh (ρ : Nat → Option Value) (n : Nat) : Prop := ∀ k, n ≤ k → ρ k = none

/-- The function, walked into: it may turn what its caller has. -/
structure InlOK (P : Program) (g : FuncId) (lvs : List LV) (s : LS) (kb : Nat) (K : LV → LS → Prop) : Prop where
  fn : ∃ fn, P.funcs[g]? = some fn ∧ fn.body.isSome = true ∧ (fn.name == "runtime.NumGoroutine") = false
  calls : ∀ (O : Nat → Prop) (nt : Nat) (ρ : Nat → Option Value) (I : Nat → Prop) (a : Act) (w : World) (vs : List Value), (∀ g, w.heap.size ≤ g → O g) → Fresh ρ s.nx → (∀ k, kb ≤ k → k < kb + 32 → ρ k = none) → kb + 32 ≤ s.nx → Rel O nt ρ I s a w → vs.length = lvs.length →
    (∀ j, j < lvs.length → VR ρ w I (lvs.getD j .bad) (vs.getD j undef)) →
    Calls P g vs.toArray w fun e w' => ∃ v lv s' ρ' I', e = .returned v ∧ K lv s' ∧ VR ρ' w' I' lv v ∧ Rel O nt ρ' I' s' a w' ∧ (∀ k, ¬ (kb ≤ k ∧ k < kb + 32) → k < s.nx → ρ' k = ρ k) ∧ Fresh ρ' s.nx ∧ s'.nx = s.nx ∧ s'.lo = s.lo ∧ (∀ b, I b → I' b) ∧ (∀ b, I' b → I b ∨ O b) ∧ (∀ b, I b → w'.heap[b]? = w.heap[b]?) ∧ Step O w w'

section
variable {P : Program} {T : TT} {O : Nat → Prop} {nt : Nat} {ρ : Nat → Option Value} {I : Nat → Prop} {s : LS} {a : Act} {w : World} {kb : Nat} {o : Oper}

/-- the blocks that what is told may lead to -/
def Used (ρ : Nat → Option Value) (w : World) (I : Nat → Prop) (s : LS) (ks : List Nat) (b : Nat) : Prop := I b ∨ ∃ k e v, k ∈ ks ∧ s.hp k = some e ∧ ρ k = some v ∧ foot w v e b

theorem ownRd {J : Nat → Prop} {e : TypeId} {sz n : Nat} {v : Value} {xs : List Value} {f : Nat → List D} (h0 : 0 < sz) (h3 : w.ownsRow 0 e sz v n xs) (h4 : ∀ u ∈ xs, u.oneCell' = true) (h5 : ∀ i, i < n → (f i).length = sz)
    (h6 : ∀ i j, i < n → j < sz → Rd w I ((f i).getD j (.v undef)) (xs.getD (i * sz + j) undef)) (hJ : ∀ g, blk v = some g → J g) (hIJ : ∀ b, I b → J b) : Rd w J (.l n f) v := by
  rcases h3.2 with ⟨rfl, rfl⟩ | ⟨g0, cap, cur, rfl, _, _, hnc, _⟩
  · exact .nil _ _ _
  · rcases Nat.eq_zero_or_pos n with rfl | hn
    · exact .nil _ _ _
    · have hlt : ∀ i j, i < n → j < sz → i * sz + j < xs.length := by
        intro i j hi hj
        have : (i + 1) * sz ≤ n * sz := Nat.mul_le_mul_right _ hi
        rw [Nat.add_mul, Nat.one_mul] at this
        rw [h3.1]
        omega
      refine .l n f ⟨g0, 0, none⟩ cap sz (fun i j => xs.getD (i * sz + j) undef) hn hnc (hJ _ rfl) rfl h0 h5 (fun i j hi hj => ?_) (fun i j hi hj => ?_) (fun i j hi hj => (h6 i j hi hj).mono hIJ (fun _ _ => rfl))
      · exact h3.cells (g := g0) rfl (i * sz + j) _ (by simp [List.getD, List.getElem?_eq_getElem (hlt i j hi hj)])
      · exact h4 _ (by simp [List.getD, List.getElem?_eq_getElem (hlt i j hi hj)])
theorem rowD (hR : Rel O nt ρ I s a w) {k : Nat} {v : Value} (hv : VR ρ w I (.row k) v) {n : Nat} {f : Nat → List D} {e : TypeId} {sz : Nat} (hk : s.hp k = some (.row e sz n f)) {ks : List Nat} (hin : k ∈ ks) :
    Rd w (Used ρ w I s ks) (.l n f) v := by
  obtain ⟨h0, u, xs, h2, h3, h4, h5, h6⟩ := hR.hp k _ hk
  cases hv with
  | row hρ hv =>
    obtain rfl := Option.some.inj (h2.symm.trans hρ)
    exact ownRd h0 h3 h4 h5 h6 (fun g hg => .inr ⟨k, _, _, hin, hk, hρ, .inl hg⟩) (fun b hb => .inl hb)
/-- a row of rows, as data -/
abbrev nestF (L : Nat → Nat) (f : Nat → Nat → List D) (i : Nat) : List D := [.l (L i) (f i)]
theorem nestD (hR : Rel O nt ρ I s a w) {k : Nat} {v : Value} (hv : VR ρ w I (.row k) v) {eo ei : TypeId} {sz n : Nat} {L : Nat → Nat} {f : Nat → Nat → List D} (hk : s.hp k = some (.nest eo ei sz n L f [])) {ks : List Nat} (hin : k ∈ ks) :
    Rd w (Used ρ w I s ks) (.l n (nestF L f)) v := by
  obtain ⟨h0, u, xs, h2, h3, h4, h5, h6, h7⟩ := hR.hp k _ hk
  cases hv with
  | row hρ hv =>
    obtain rfl := Option.some.inj (h2.symm.trans hρ)
    refine ownRd (I := Used ρ w I s ks) (Nat.succ_pos 0) h3 h4 (fun i hi => rfl) (fun i j hi hj => ?_) (fun g hg => .inr ⟨k, _, _, hin, hk, hρ, .inl hg⟩) (fun b hb => hb)
    obtain rfl : j = 0 := by omega
    obtain ⟨ys, q1, q2, q3, q4⟩ := h5 i hi
    simp only [Nat.mul_one, Nat.add_zero]
    exact ownRd h0 q1 q2 q3 q4 (fun g hg => .inr ⟨k, _, _, hin, hk, hρ, .inr ⟨i, _, _, _, hi, rfl, ownsRow_cellAt h3 hi, hg⟩⟩) (fun b hb => .inl hb)

/-- a row of rows of which some are given out or are data, as data -/
theorem nestDo (hR : Rel O nt ρ I s a w) {k : Nat} {v : Value} (hv : VR ρ w I (.row k) v) {eo ei : TypeId} {sz n : Nat} {L : Nat → Nat} {f : Nat → Nat → List D} {ov : List (Nat × NE)} (hk : s.hp k = some (.nest eo ei sz n L f ov)) (hok : nestOk s ov = true) {ks : List Nat} (hin : k ∈ ks) (hih : ∀ j, j ∈ holeKeys ov → j ∈ ks) :
    Rd w (Used ρ w I s ks) (.l n (nestEl s L f ov)) v := by
  have look : ∀ (ov : List (Nat × NE)) (i : Nat) (e : NE), nestOk s ov = true → lookN ov i = some e → (∃ x, e = .dat x) ∨ ∃ kh, e = .hole kh ∧ kh ∈ holeKeys ov ∧ ∃ e0 s0 m h, s.hp kh = some (.row e0 s0 m h) := by
    intro ov
    induction ov with
    | nil => intro i e _ h; simp [lookN] at h
    | cons p r ih =>
      obtain ⟨q, x⟩ := p
      intro i e ho h
      simp only [lookN] at h
      cases hb : Nat.beq i q with
      | true =>
        rw [hb, cond_true] at h
        obtain rfl := Option.some.inj h
        cases x with
        | own => simp [nestOk] at ho
        | any => simp [nestOk] at ho
        | dat x => exact .inl ⟨x, rfl⟩
        | hole kh =>
          simp only [nestOk, Bool.and_eq_true] at ho
          refine .inr ⟨kh, rfl, by simp [holeKeys], ?_⟩
          have := ho.1
          split at this
          · rename_i e0 s0 m h hh; exact ⟨_, _, _, _, hh⟩
          · simp at this
      | false =>
        rw [hb, cond_false] at h
        cases x with
        | own => simp [nestOk] at ho
        | any => simp [nestOk] at ho
        | dat x => exact (ih i e (by simpa [nestOk] using ho) h).imp id (fun ⟨kh, q1, q2, q3⟩ => ⟨kh, q1, by simpa [holeKeys] using q2, q3⟩)
        | hole kh =>
          simp only [nestOk, Bool.and_eq_true] at ho
          exact (ih i e ho.2 h).imp id (fun ⟨kh, q1, q2, q3⟩ => ⟨kh, q1, by simp [holeKeys, q2], q3⟩)
  obtain ⟨h0, u, xs, h2, h3, h4, h5, h6, h7⟩ := hR.hp k _ hk
  cases hv with
  | row hρ hv =>
    obtain rfl := Option.some.inj (h2.symm.trans hρ)
    have hone : ∀ i, i < n → (nestEl s L f ov i).length = 1 := by
      intro i hi
      unfold nestEl
      cases hn : nOf L f ov i with
      | own => rfl
      | dat => rfl
      | hole kh =>
        unfold nOf at hn
        split at hn
        · rename_i e he
          subst hn
          rcases look ov i _ hok he with ⟨x, hx⟩ | ⟨kh', q1, _, e0, s0, m, h, q2⟩
          · simp at hx
          · simp only [NE.hole.injEq] at q1; subst q1; simp only [q2]; rfl
        · simp at hn
      | any =>
        unfold nOf at hn
        split at hn
        · rename_i e he
          subst hn
          rcases look ov i _ hok he with ⟨x, hx⟩ | ⟨kh', q1, _⟩
          · simp at hx
          · simp at q1
        · simp at hn
    refine ownRd (I := Used ρ w I s ks) (Nat.succ_pos 0) h3 h4 hone (fun i j hi hj => ?_) (fun g hg => .inr ⟨k, _, _, hin, hk, hρ, .inl hg⟩) (fun b hb => hb)
    obtain rfl : j = 0 := by omega
    simp only [Nat.mul_one, Nat.add_zero]
    have hne := h5 i hi
    have h1 := hone i hi
    unfold nestEl at h1 ⊢
    cases hn : nOf L f ov i with
    | own m h =>
      rw [hn] at hne
      obtain ⟨ys, q1, q2, q3, q4⟩ := hne
      exact ownRd h0 q1 q2 q3 q4 (fun g hg => .inr ⟨k, _, _, hin, hk, hρ, .inr ⟨i, _, _, _, hi, hn, ownsRow_cellAt h3 hi, hg⟩⟩) (fun b hb => .inl hb)
    | dat x =>
      rw [hn] at hne
      exact Rd.mono hne (fun b hb => .inl hb) (fun _ _ => rfl)
    | any => rw [hn] at h1; simp at h1
    | hole kh =>
      rw [hn] at hne
      have hlk : lookN ov i = some (.hole kh) := by
        unfold nOf at hn
        split at hn
        · rename_i e he; rw [he, hn]
        · simp at hn
      rcases look ov i _ hok hlk with ⟨x, hx⟩ | ⟨kh', q1, q3, e0, s0, m, h, q2⟩
      · simp at hx
      · simp only [NE.hole.injEq] at q1
        subst q1
        simp only [q2]
        have hsl : ∃ A n c, xs.getD i undef = .slice A n c := by
          obtain ⟨_, u', xs', r2, r3, _⟩ := hR.hp kh _ q2
          obtain rfl := Option.some.inj (r2.symm.trans hne)
          rcases r3.2 with ⟨q, _⟩ | ⟨g0, cap, cur, q, _⟩ <;> exact ⟨_, _, _, q⟩
        exact rowD hR (.row hne hsl) q2 (hih kh q3)

theorem snapD_sound (hR : Rel O nt ρ I s a w) {x : LV} {v : Value} (hv : VR ρ w I x v) {d : D} (h : snapD s x = some d) {ks : List Nat} (hin : ∀ j, j ∈ keysRL s x → j ∈ ks) : Rd w (Used ρ w I s ks) d v := by
  unfold snapD at h
  split at h
  · obtain rfl := Option.some.inj h
    exact (VR.data hv).mono (fun _ hb => .inl hb) (fun _ _ => rfl)
  · rename_i k
    split at h <;> (try (simp at h; done))
    · rename_i e sz n f hk
      obtain rfl := Option.some.inj h
      exact rowD hR hv hk (hin k (by simp [keysRL]))
    · rename_i eo ei sz n L f hk
      obtain rfl := Option.some.inj h
      exact nestD hR hv hk (hin k (by simp [keysRL]))
    · rename_i eo ei sz n L f ov hne hk
      replace h := bif_some h
      obtain ⟨hok, h⟩ := h
      obtain rfl := Option.some.inj h
      exact nestDo hR hv hk hok (hin k (by simp [keysRL])) (fun j hj => hin j (by simp [keysRL, keysR, hk, hj]))
  · simp at h

theorem mapO_get {α β : Type} {f : α → Option β} : ∀ {l : List α} {r : List β}, mapO f l = some r → r.length = l.length ∧ ∀ (j : Nat) (x : α), l[j]? = some x → ∃ y, r[j]? = some y ∧ f x = some y
  | [], r, h => by simp [mapO] at h; subst h; simp
  | x :: xs, r, h => by
    simp only [mapO] at h
    cases h1 : f x with
    | none => simp [h1] at h
    | some y =>
      cases h2 : mapO f xs with
      | none => simp [h1, h2] at h
      | some ys =>
        simp only [h1, h2, Option.some.injEq] at h
        subst h
        obtain ⟨i1, i2⟩ := mapO_get h2
        refine ⟨by simp [i1], fun j z hj => ?_⟩
        cases j with
        | zero => simp at hj; subst hj; exact ⟨y, by simp, h1⟩
        | succ j => simpa using i2 j z (by simpa using hj)

theorem getD_some {α : Type} {l : List α} {j : Nat} {x d : α} (h : l[j]? = some x) : l.getD j d = x := by simp [List.getD, h]
theorem get_of_lt {α : Type} {l : List α} {j : Nat} (h : j < l.length) (d : α) : l[j]? = some (l.getD j d) := by simp [List.getD, List.getElem?_eq_getElem h]

theorem mem_rows {cs : List LV} {x : LV} {k : Nat} (h : x ∈ cs) (hk : k ∈ keysRL s x) : k ∈ cs.flatMap (keysRL s) := List.mem_flatMap.2 ⟨_, h, hk⟩

theorem snap1_sound (hR : Rel O nt ρ I s a w) {x : LV} {v : Value} (hv : VR ρ w I x v) {y : LV} (h : snap1 s x = some y) {ks : List Nat} (hin : ∀ k, k ∈ keys1 s x → k ∈ ks) : VR (fun _ => none) w (Used ρ w I s ks) y v := by
  unfold snap1 at h
  split at h
  · obtain rfl := Option.some.inj h
    exact .d ((VR.data hv).mono (fun _ hb => .inl hb) (fun _ _ => rfl))
  · rename_i k
    split at h <;> (try (simp at h; done))
    · rename_i e sz n f hk
      obtain rfl := Option.some.inj h
      exact .d (rowD hR hv hk (hin k (by simp [keys1])))
    · rename_i eo ei sz n L f hk
      obtain rfl := Option.some.inj h
      exact .d (nestD hR hv hk (hin k (by simp [keys1])))
    · rename_i eo ei sz n L f ov hne hk
      replace h := bif_some h
      obtain ⟨hok, h⟩ := h
      obtain rfl := Option.some.inj h
      exact .d (nestDo hR hv hk hok (hin k (by simp [keys1])) (fun j hj => hin j (by simp [keys1, keysR, hk, hj])))
  · rename_i cs
    obtain rfl := Option.some.inj h
    cases hv with
    | dptr vs hs hI hv hr => exact .dptr vs hs (.inl hI) hv (fun j hj => (hr j hj).mono (fun _ hb => .inl hb) (fun _ _ => rfl))
  · rename_i cs
    obtain rfl := Option.some.inj h
    cases hv with
    | pptr hs0 hI0 hc0 hv =>
      cases hv with
      | dptr vs hs hI hv hr => exact .pptr hs0 (.inl hI0) hc0 (.dptr vs hs (.inl hI) hv (fun j hj => (hr j hj).mono (fun _ hb => .inl hb) (fun _ _ => rfl)))
  · rename_i k sz' lo hi
    split at h <;> (try (simp at h; done))
    rename_i e sz n f hk
    replace h := bif_some h
    obtain ⟨hb, h⟩ := h
    obtain rfl := Option.some.inj h
    simp only [Bool.and_eq_true, Nat.beq_eq, Nat.blt_eq, Nat.ble_eq] at hb
    obtain ⟨rfl, hlo, hhi⟩ := hb
    cases hv with
    | @sub _ _ _ _ g n0 c off hρ a1 a2 ho =>
      have hr := rowD hR (.row hρ ⟨_, _, _, rfl⟩) hk (hin k (by simp [keys1]))
      obtain ⟨_, _, _, _, _, _, u4, _⟩ := hR.hp k _ hk
      obtain rfl : n0 = n := by cases hr <;> rfl
      have hcn : n0 ≤ c := by
        cases hr with
        | nil => omega
        | l _ _ _ _ _ _ _ hc => exact hc
      have hp := hr.part (te := sz) (l := lo) (h := hi) (by omega) hhi (.inr u4)
      rw [if_neg (by omega)] at hp
      have ea : (some (⟨g, 0, none⟩ : Addr)).map (·.add (lo * sz)) = some ⟨g, lo * sz, none⟩ := by
        show some ((⟨g, 0, none⟩ : Addr).add (lo * sz)) = _
        unfold Addr.add
        by_cases h0 : lo * sz = 0
        · simp [h0]
        · simp [h0]
      rw [ea] at hp
      obtain rfl := ho (.inl hlo)
      exact .d hp
    | sub0 => omega
  · rename_i k off
    split at h <;> (try (simp at h; done))
    rename_i t cs hk
    obtain ⟨g, us, rfl, hρ, hg, h3, h4, h5⟩ := box_cells (hR.hp k _ hk) hv
    split at h
    rotate_left
    · unfold ptrD at h
      split at h <;> (try (simp at h; done))
      rename_i ds hds
      obtain rfl := Option.some.inj h
      have h40 := h4 off (by
        rcases Nat.lt_or_ge off cs.length with h | h
        · exact h
        · rw [List.drop_eq_nil_of_le (by omega)] at hds; simp at hds)
      have e0 : cs.getD (off + 0) .bad = .dptr ds := by
        rw [← getD_drop, hds]; rfl
      have h50 := h5 0 (by rw [hds]; simp)
      rw [Nat.add_zero] at e0 h50
      rw [e0] at h40
      rw [Addr.add_zero'] at h50
      refine .pptr rfl (.inr ⟨k, _, _, hin k (by simp [keys1]), hk, hρ, .inl rfl⟩) h50 ?_
      generalize us.getD off undef = u at h40 h50 ⊢
      cases h40 with
      | dptr vs hs hI hv hr => exact .dptr vs hs (.inl hI) hv (fun j hj => (hr j hj).mono (fun _ hb => .inl hb) (fun _ _ => rfl))
    rename_i ds hds
    obtain rfl := Option.some.inj h
    obtain ⟨m1, m2⟩ := mapO_get hds
    have hks : ∀ x, x ∈ cs → ∀ k', k' ∈ keysRL s x → k' ∈ ks := fun x hx k' hk' => hin k' (by simp only [keys1, hk]; exact List.mem_cons_of_mem _ (mem_rows hx hk'))
    refine .dptr (fun j => us.getD (off + j) undef) rfl (.inr ⟨k, _, _, hin k (by simp [keys1]), hk, hρ, .inl rfl⟩) (fun j hj => h5 j (by rw [← m1]; exact hj)) (fun j hj => ?_)
    have hj' : j < (cs.drop off).length := by rw [← m1]; exact hj
    have hjc : off + j < cs.length := by simp at hj'; omega
    obtain ⟨y, hy1, hy2⟩ := m2 j _ (get_of_lt hj' .bad)
    rw [getD_some hy1]
    rw [getD_drop] at hy2
    exact snapD_sound hR (h4 _ hjc) hy2 (fun k' hk' => hks _ (List.mem_of_getElem? (get_of_lt hjc .bad)) k' hk')
  · rename_i cs
    split at h <;> (try (simp at h; done))
    rename_i ds hds
    obtain rfl := Option.some.inj h
    cases hv with
    | agg hl hc =>
      obtain ⟨m1, m2⟩ := mapO_get hds
      refine .agg (by rw [hl, List.length_map, m1]) (fun j hj => ?_)
      have hj' : j < cs.length := by rw [List.length_map, m1] at hj; exact hj
      obtain ⟨y, hy1, hy2⟩ := m2 j _ (get_of_lt hj' .bad)
      have e : (ds.map LV.d).getD j .bad = .d y := by simp [List.getD, hy1]
      rw [e]
      refine .d (snapD_sound hR (hc j hj') hy2 (fun k' hk' => hin k' ?_))
      simp only [keys1]
      exact mem_rows (List.mem_of_getElem? (get_of_lt hj' .bad)) hk'
  · simp at h

theorem snap_sound (hR : Rel O nt ρ I s a w) {x : LV} {v : Value} (hv : VR ρ w I x v) {y : LV} (h : snap s x = some y) {ks : List Nat} (hin : ∀ k, k ∈ keysOf s x → k ∈ ks) : VR (fun _ => none) w (Used ρ w I s ks) y v := by
  unfold snap at h
  split at h
  · rename_i f caps
    split at h <;> (try (simp at h; done))
    rename_i cs hcs
    obtain rfl := Option.some.inj h
    cases hv with
    | fn hl hc =>
      obtain ⟨m1, m2⟩ := mapO_get hcs
      refine .fn (by rw [hl, m1]) (fun j hj => ?_)
      have hj' : j < caps.length := by rw [m1] at hj; exact hj
      obtain ⟨y, hy1, hy2⟩ := m2 j _ (get_of_lt hj' .bad)
      rw [getD_some hy1]
      refine snap1_sound hR (hc j hj') hy2 (fun k hk => hin k ?_)
      simp only [keysOf]
      exact List.mem_flatMap.2 ⟨_, List.mem_of_getElem? (get_of_lt hj' .bad), hk⟩
  · rename_i hn
    refine snap1_sound hR hv h (fun k hk => hin k ?_)
    unfold keysOf
    split
    · exact absurd rfl (hn _ _)
    · exact hk
end
end Go.Proofs.YtojaakpnpdnbhaaGreatDoor.L
