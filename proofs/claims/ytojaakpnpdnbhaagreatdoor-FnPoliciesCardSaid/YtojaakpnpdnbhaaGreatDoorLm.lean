/- Functions in the symbolic logic: from a body's walk to a contract. -/
import Derived.Test.YtojaakpnpdnbhaaGreatDoorLl
import Derived.Laws.StructEq
set_option linter.unusedVariables false
set_option linter.unusedSimpArgs false
namespace Go.Proofs.YtojaakpnpdnbhaaGreatDoor.L
open Go.RowKit

@[reducible] def entry (lvs : List LV) : LS := ⟨fun i => lvs.getD i .bad, fun _ => none, 0, 0⟩

def resL (T : TT) (s : LS) : ResultVar → Option LV
  | .tmp t => some (s.fr t)
  | .cell x t => match T t with
    | some ti => match s.fr x with
      | .ptr k off => match s.hp k with
        | some (.box _ cs) => loadLV ti (cs.drop off)
        | _ => none
      | _ => none
    | none => none

def atomD : D → Bool
  | .v _ => true
  | _ => false
/-- what reads as x reads as y -/
def DLe (x y : D) : Prop := ∀ w I v, Rd w I x v → Rd w I y v
theorem DLe.refl (x : D) : DLe x x := fun _ _ _ h => h
theorem DLe.l {n m : Nat} {f g : Nat → List D} (hn : n = m) (h : ∀ i, i < n → f i = g i) : DLe (.l n f) (.l m g) := by
  subst hn
  intro w I v hr
  cases hr with
  | nil f A c => exact .nil _ _ _
  | l n f a c sz vs h0 hc hI hs hz hl hv h1 hr =>
    exact .l n g a c sz vs h0 hc hI hs hz (fun i hi => by rw [← h i hi]; exact hl i hi) hv h1 (fun i j hi hj => by rw [← h i hi]; exact hr i j hi hj)

def TellC (s : LS) : LV → RC → Prop
  | .d (.v x), .v y => x = y
  | .d x, .sh y => DLe x y
  | .row k, .own e sz n f => match s.hp k with
    | some (.row e' sz' n' f') => e' = e ∧ sz' = sz ∧ n' = n ∧ ∀ i, i < n → f' i = f i ∧ (f i).all atomD = true
    | _ => False
  | .row k, .sh y => match s.hp k with
    | some (.row _ _ n' f') => DLe (.l n' f') y
    | some (.nest _ _ _ n' L' f' []) => DLe (.l n' (nestF L' f')) y
    | _ => False
  | .row k, .ownn eo ei sz n L f => match s.hp k with
    | some (.nest eo' ei' sz' n' L' f' []) => eo' = eo ∧ ei' = ei ∧ sz' = sz ∧ n' = n ∧ ∀ i, i < n → L' i = L i ∧ ∀ j, j < L i → f' i j = f i j ∧ (f i j).all atomD = true
    | _ => False
  | .d (.v (.slice none 0 0)), .own e sz n f => n = 0 ∧ Nat.blt 0 sz = true
  | .d (.v (.slice none 0 0)), .ownn eo ei sz n L f => n = 0 ∧ Nat.blt 0 sz = true
  | _, _ => False
theorem all_atom {w : World} {I J : Nat → Prop} {xs : List D} (h : xs.all atomD = true) {j : Nat} (hj : j < xs.length) {v : Value} (hr : Rd w I (xs.getD j (.v undef)) v) : Rd w J (xs.getD j (.v undef)) v := by
  have h9 := List.all_eq_true.1 h (xs.getD j (.v undef)) (by simp [List.getD, List.getElem?_eq_getElem hj])
  generalize xs.getD j (.v undef) = z at hr h9
  cases z with
  | v z => cases hr; exact .v _
  | l => simp [atomD] at h9
theorem tellC_own {s : LS} {x : LV} {c : RC} {e : Ent} (h : TellC s x c) (hc : entOf c = some e) :
    (∃ k, x = .row k) ∨ x = .d (.v (.slice none 0 0)) := by
  unfold TellC at h
  split at h <;> (try (exact h.elim)) <;> (try (simp [entOf] at hc; done))
  · exact .inl ⟨_, rfl⟩
  · exact .inl ⟨_, rfl⟩
  · exact .inr rfl
  · exact .inr rfl
def tellCs (s : LS) : List LV → List RC → Prop
  | [], [] => True
  | x :: xs, c :: cs => TellC s x c ∧ tellCs s xs cs
  | _, _ => False
def flat1 : LV → RV1 → Option (List LV)
  | lv, .one _ => some [lv]
  | .agg cs, .agg rs => bif Nat.beq cs.length rs.length then some cs else none
  | _, _ => none
def flats : List LV → List RV1 → Option (List LV)
  | [], [] => some []
  | l :: ls, x :: xs => match flat1 l x, flats ls xs with
    | some p, some q => some (p ++ q)
    | _, _ => none
  | _, _ => none
def flatR : List LV → RV → Option (List LV)
  | [lv], .r x => flat1 lv x
  | [], .tup xs => flats [] xs
  | a :: b :: ls, .tup xs => flats (a :: b :: ls) xs
  | _, _ => none
def rowIn (k : Nat) : List LV → Bool
  | [] => false
  | .row k' :: xs => Nat.beq k k' || rowIn k xs
  | _ :: xs => rowIn k xs
def noDup : List LV → Bool
  | [] => true
  | .row k :: xs => !rowIn k xs && noDup xs
  | _ :: xs => noDup xs

/-- what a function's end has to tell -/
def FnPost (T : TT) (fn : Func) (r : RV) (e : Exit) (s : LS) : Prop := match e with
  | .normal | .ret => match mapO (resL T s) fn.results.toList with
    | some lvs => match flatR lvs r with
      | some fl => tellCs s fl r.leaves ∧ noDup fl = true
      | none => False
    | none => False
  | _ => False

section
variable {P : Program} {T : TT} {O : Nat → Prop} {nt : Nat} {ρ : Nat → Option Value} {I : Nat → Prop} {s : LS} {a : Act} {w : World}

def resSem (tmps : Array Value) : ResultVar → Sem Value
  | .tmp t => pure (tmps.getD t undef)
  | .cell b t => do loadVar t (← asAddr (tmps.getD b undef))

theorem resL_sound (hT : TOk P T) (hR : Rel O nt ρ I s a w) {x : ResultVar} {lv : LV} (h : resL T s x = some lv) :
    ∃ v, VR ρ w I lv v ∧ (resSem a.tmps x).run P w = .ok v w := by
  cases x with
  | tmp t =>
    obtain rfl := Option.some.inj h
    exact ⟨_, hR.fr t, rfl⟩
  | cell b t =>
    simp only [resL] at h
    split at h <;> (try (simp at h; done))
    rename_i ti ht
    split at h <;> (try (simp at h; done))
    rename_i k off hfr
    split at h <;> (try (simp at h; done))
    rename_i bt cs hk
    have hv := hR.fr b
    rw [hfr] at hv
    obtain ⟨g, us, hax, _, _, h3, h4, h5⟩ := box_cells (hR.hp k _ hk) hv
    obtain ⟨v, h6, h7⟩ := load_sound (P := P) hT ht h5 (fun j hj => by rw [getD_drop]; exact h4 _ (by simp at hj; omega)) h
    refine ⟨v, h7, ?_⟩
    simp only [resSem, hax, asAddr, Sem.run_bind, Sem.run_pure, Result.andThen_ok, h6]

theorem flat1_len {lv : LV} {x : RV1} {fl : List LV} (h : flat1 lv x = some fl) : fl.length = x.leaves.length := by
  cases x with
  | one c =>
    obtain rfl : [lv] = fl := by cases lv <;> simpa [flat1] using h
    rfl
  | agg cs =>
    cases lv with
    | agg ls =>
      obtain ⟨h1, h2⟩ := bif_some (show (bif Nat.beq ls.length cs.length then some ls else none) = some fl from h)
      obtain rfl := Option.some.inj h2
      simpa [RV1.leaves] using h1
    | _ => simp [flat1] at h

theorem flat1_sound {lv : LV} {v : Value} (hv : VR ρ w I lv v) {x : RV1} {fl : List LV} (h : flat1 lv x = some fl) :
    ∃ us : List Value, us.length = fl.length ∧ (∀ j, j < fl.length → VR ρ w I (fl.getD j .bad) (us.getD j undef)) ∧ ∀ pre post : List Value, v = x.val (pre ++ (us ++ post)) pre.length := by
  have hl := flat1_len h
  cases x with
  | one c =>
    obtain rfl : [lv] = fl := by cases lv <;> simpa [flat1] using h
    refine ⟨[v], rfl, fun j hj => ?_, fun pre post => ?_⟩
    · obtain rfl : j = 0 := by simp at hj; omega
      exact hv
    · simp [RV1.val]
  | agg cs =>
    cases lv with
    | agg ls =>
      obtain ⟨h1, h2⟩ := bif_some (show (bif Nat.beq ls.length cs.length then some ls else none) = some fl from h)
      obtain rfl := Option.some.inj h2
      cases hv with
      | agg hl2 hc =>
        rename_i us
        refine ⟨us.toList, by simpa using hl2, (Cells.ofArr hl2 hc).2, fun pre post => ?_⟩
        simp only [RV1.val, RV1.leaves] at hl ⊢
        congr 1
        apply Array.ext'
        simp only [List.toList_toArray]
        apply List.ext_getElem?
        intro j
        by_cases hj : j < us.size
        · have hj2 : j < cs.length := by omega
          have hj3 : ¬ pre.length + j < pre.length := by omega
          simp [hj, hj2, List.getElem?_append, hj3]
        · have hj2 : ¬ j < cs.length := by omega
          simp [hj, hj2]
    | _ => simp [flat1] at h

theorem flats_len : ∀ {lvs : List LV} {xs : List RV1} {fl : List LV}, flats lvs xs = some fl → fl.length = (leavesT xs).length ∧ lvs.length = xs.length
  | [], [], fl, h => by obtain rfl := Option.some.inj h; exact ⟨rfl, rfl⟩
  | l :: ls, x :: xs, fl, h => by
    simp only [flats] at h
    split at h <;> (try (simp at h; done))
    rename_i p q hp hq
    obtain rfl := Option.some.inj h
    obtain ⟨i1, i2⟩ := flats_len hq
    exact ⟨by simp [leavesT, flat1_len hp, i1], by simp [i2]⟩
  | [], _ :: _, _, h => by simp [flats] at h
  | _ :: _, [], _, h => by simp [flats] at h

theorem flats_sound : ∀ (lvs : List LV) (vs : List Value) (xs : List RV1) (fl : List LV), vs.length = lvs.length → (∀ j, j < lvs.length → VR ρ w I (lvs.getD j .bad) (vs.getD j undef)) → flats lvs xs = some fl →
    ∃ us : List Value, us.length = fl.length ∧ (∀ j, j < fl.length → VR ρ w I (fl.getD j .bad) (us.getD j undef)) ∧ ∀ pre : List Value, vs = tvals (pre ++ us) pre.length xs
  | [], vs, [], fl, hl, _, h => by
    obtain rfl := Option.some.inj h
    obtain rfl : vs = [] := by simpa using hl
    exact ⟨[], rfl, fun j hj => absurd hj (by simp), fun pre => rfl⟩
  | l :: ls, [], x :: xs, fl, hl, _, h => by simp at hl
  | l :: ls, v :: vs, x :: xs, fl, hl, hv, h => by
    simp only [flats] at h
    split at h <;> (try (simp at h; done))
    rename_i p q hp hq
    obtain rfl := Option.some.inj h
    obtain ⟨us1, a1, a2, a3⟩ := flat1_sound (by simpa using hv 0 (by simp)) hp
    obtain ⟨us2, b1, b2, b3⟩ := flats_sound ls vs xs q (by simpa using hl) (fun j hj => by simpa using hv (j + 1) (by simpa using hj)) hq
    refine ⟨us1 ++ us2, by simp [a1, b1], fun j hj => ?_, fun pre => ?_⟩
    · by_cases hjp : j < p.length
      · have e1 : (p ++ q).getD j .bad = p.getD j .bad := by simp [List.getD, List.getElem?_append, hjp]
        have e2 : (us1 ++ us2).getD j undef = us1.getD j undef := by simp [List.getD, List.getElem?_append, a1, hjp]
        rw [e1, e2]
        exact a2 j hjp
      · have e1 : (p ++ q).getD j .bad = q.getD (j - p.length) .bad := by simp [List.getD, List.getElem?_append, hjp]
        have e2 : (us1 ++ us2).getD j undef = us2.getD (j - p.length) undef := by simp [List.getD, List.getElem?_append, a1, hjp]
        rw [e1, e2]
        exact b2 _ (by simp at hj; omega)
    · have hx := a3 pre us2
      have ht := b3 (pre ++ us1)
      have hlen : (pre ++ us1).length = pre.length + x.leaves.length := by simp [a1, flat1_len hp]
      rw [hlen, List.append_assoc] at ht
      simp only [tvals]
      rw [← hx, ← ht]
  | [], _, _ :: _, _, _, _, h => by simp [flats] at h
  | _ :: _, _, [], _, _, _, h => by simp [flats] at h

theorem tellCs_get : ∀ {fl : List LV} {cs : List RC}, tellCs s fl cs → fl.length = cs.length ∧ ∀ (j : Nat) (c : RC), cs[j]? = some c → ∃ x, fl[j]? = some x ∧ TellC s x c
  | [], [], _ => ⟨rfl, fun j c h => by simp at h⟩
  | x :: xs, c :: cs, h => by
    obtain ⟨i1, i2⟩ := tellCs_get h.2
    refine ⟨by simp [i1], fun j d hd => ?_⟩
    cases j with
    | zero =>
      obtain rfl : c = d := by simpa using hd
      exact ⟨x, rfl, h.1⟩
    | succ j => simpa using i2 j d (by simpa using hd)
  | [], _ :: _, h => h.elim
  | _ :: _, [], h => h.elim

theorem rowIn_of {k : Nat} : ∀ {fl : List LV} {j : Nat}, fl[j]? = some (.row k) → rowIn k fl = true
  | [], j, h => by simp at h
  | x :: xs, j, h => by
    cases j with
    | zero =>
      obtain rfl : x = .row k := by simpa using h
      simp [rowIn, Nat.beq_refl]
    | succ j =>
      have := rowIn_of (fl := xs) (j := j) (by simpa using h)
      cases x <;> simp [rowIn, this]

theorem noDup_of {k : Nat} : ∀ {fl : List LV} {i j : Nat}, noDup fl = true → fl[i]? = some (.row k) → fl[j]? = some (.row k) → i = j
  | [], i, j, _, h, _ => by simp at h
  | x :: xs, i, j, hn, h, h' => by
    have hn' : noDup xs = true ∧ ∀ k, x = .row k → rowIn k xs = false := by
      cases x with
      | row k0 =>
        simp only [noDup, Bool.and_eq_true, Bool.not_eq_true'] at hn
        exact ⟨hn.2, fun k hk => by cases hk; exact hn.1⟩
      | _ => exact ⟨hn, fun k hk => by cases hk⟩
    cases i with
    | zero =>
      cases j with
      | zero => rfl
      | succ j =>
        have h1 := hn'.2 k (by simpa using h)
        rw [rowIn_of (by simpa using h')] at h1
        simp at h1
    | succ i =>
      cases j with
      | zero =>
        have h1 := hn'.2 k (by simpa using h')
        rw [rowIn_of (by simpa using h)] at h1
        simp at h1
      | succ j => exact congrArg (· + 1) (noDup_of (k := k) hn'.1 (by simpa using h) (by simpa using h'))

theorem run_results (hT : TOk P T) (hR : Rel O nt ρ I s a w) : ∀ (xs : List ResultVar) (lvs : List LV), mapO (resL T s) xs = some lvs →
    ∃ vs : List Value, vs.length = lvs.length ∧ (∀ j, j < lvs.length → VR ρ w I (lvs.getD j .bad) (vs.getD j undef)) ∧
      (xs.mapM (resSem a.tmps)).run P w = .ok vs w
  | [], lvs, h => by
    obtain rfl : [] = lvs := by simpa [mapO] using h
    exact ⟨[], rfl, fun j hj => absurd hj (by simp), by simp⟩
  | x :: xs, lvs, h => by
    simp only [mapO] at h
    cases h1 : resL T s x with
    | none => simp [h1] at h
    | some y =>
      cases h2 : mapO (resL T s) xs with
      | none => simp [h1, h2] at h
      | some ys =>
        simp only [h1, h2, Option.some.injEq] at h
        subst h
        obtain ⟨v, hv, hrun⟩ := resL_sound hT hR h1
        obtain ⟨vs, q1, q2, q3⟩ := run_results hT hR xs ys h2
        refine ⟨v :: vs, by simp [q1], fun j hj => ?_, ?_⟩
        · cases j with
          | zero => simpa using hv
          | succ j => simpa using q2 j (by simpa using hj)
        · simp only [List.mapM_cons, Sem.run_bind, hrun, Result.andThen_ok, q3, Sem.run_pure]

def resVal : List Value → Value
  | [v] => v
  | vs => .tuple vs.toArray

theorem run_results' (hT : TOk P T) (hR : Rel O nt ρ I s a w) {fn : Func} {lvs : List LV} (h : mapO (resL T s) fn.results.toList = some lvs) :
    ∃ vs : List Value, vs.length = lvs.length ∧ (∀ j, j < lvs.length → VR ρ w I (lvs.getD j .bad) (vs.getD j undef)) ∧ (results fn a.tmps).run P w = .ok (resVal vs) w := by
  obtain ⟨vs, q1, q2, q3⟩ := run_results (P := P) hT hR _ _ h
  refine ⟨vs, q1, q2, ?_⟩
  have e : results fn a.tmps = (do let vs ← fn.results.mapM (resSem a.tmps); pure (if h : vs.size = 1 then vs[0] else .tuple vs) : Sem Value) := by
    unfold results
    congr 2
  have q4 : (fn.results.mapM (resSem a.tmps)).run P w = .ok vs.toArray w := by
    rw [Array.mapM_eq_mapM_toList]
    have : (List.toArray <$> List.mapM (resSem a.tmps) fn.results.toList : Sem (Array Value)) = (do let x ← List.mapM (resSem a.tmps) fn.results.toList; pure x.toArray : Sem (Array Value)) := rfl
    rw [this]
    simp only [Sem.run_bind, q3, Result.andThen_ok, Sem.run_pure]
  rw [e]
  simp only [Sem.run_bind, q4, Result.andThen_ok, Sem.run_pure]
  congr 1
  match vs with
  | [] => rfl
  | [v] => rfl
  | a :: b :: vs => rfl

theorem foot_nest {w : World} {v : Value} {eo ei eo' ei' : TypeId} {sz sz' n : Nat} {L L' : Nat → Nat} {f f' : Nat → Nat → List D} {g : Nat} (h : foot w v (.nest eo ei sz n L f []) g) : foot w v (.nest eo' ei' sz' n L' f' []) g := by
  rcases h with h | ⟨i, m, x, u, h1, _, h3, h4⟩
  · exact .inl h
  · exact .inr ⟨i, _, _, u, h1, rfl, h3, h4⟩
theorem tell_own (hR : Rel O nt ρ I s a w) {base : Nat} (hO : ∀ b, O b → base ≤ b) {x : LV} {c : RC} {e0 : Ent} {v : Value} (hv : VR ρ w I x v) (ht : TellC s x c) (he : entOf c = some e0) (J : Nat → Prop) :
    OwnOK w base J v e0 ∧ ∀ g, foot w v e0 g → ∃ k e1, x = .row k ∧ s.hp k = some e1 ∧ ρ k = some v ∧ foot w v e1 g := by
  have nil0 : ∀ u : Value, u = .slice none 0 0 → ∀ g, ¬ blk u = some g := by rintro u rfl g h; simp [blk] at h
  cases c with
  | v y => simp [entOf] at he
  | sh y => simp [entOf] at he
  | own e sz n f =>
    obtain rfl := Option.some.inj he
    cases x with
    | row k =>
      simp only [TellC] at ht
      split at ht <;> (try (exact ht.elim))
      rename_i e' sz' n' f' hk
      obtain ⟨rfl, rfl, rfl, hff⟩ := ht
      obtain ⟨h0, u, xs, h1, h2, h3, h4, h5⟩ := hR.hp k _ hk
      cases hv with
      | row hρ hvs =>
        obtain rfl := Option.some.inj (h1.symm.trans hρ)
        refine ⟨⟨⟨h0, u, xs, rfl, h2, h3, fun i hi => by rw [← (hff i hi).1]; exact h4 i hi, fun i q hi hq => ?_⟩, fun g hg => ?_, hvs⟩, fun g hg => ⟨k, _, rfl, hk, hρ, .inl (foot_flat rfl hg)⟩⟩
        · have h6 := h5 i q hi hq
          rw [(hff i hi).1] at h6
          exact all_atom (hff i hi).2 (by rw [← (hff i hi).1, h4 i hi]; exact hq) h6
        · have := hR.ow k _ u g hk hρ (.inl (foot_flat rfl hg))
          exact ⟨hO g this.2.1, this.2.2⟩
    | d y =>
      rcases tellC_own ht rfl with ⟨k, hk⟩ | hk
      · simp at hk
      · obtain rfl : y = .v (.slice none 0 0) := by simpa using hk
        obtain ⟨rfl, hz⟩ := (show n = 0 ∧ Nat.blt 0 sz = true from ht)
        have h0 : 0 < sz := by have : 0 + 1 ≤ sz := by simpa [Nat.blt] using hz
                               omega
        have hvn := VR.atom hv
        have noF : ∀ g, ¬ foot w v (.row e sz 0 f) g := fun g hg => nil0 v hvn g (foot_flat rfl hg)
        exact ⟨⟨⟨h0, v, [], rfl, ⟨by simp, .inl ⟨hvn, rfl⟩⟩, by simp, fun i hi => absurd hi (by omega), fun i j hi => absurd hi (by omega)⟩, fun g hg => (noF g hg).elim, ⟨none, 0, 0, hvn⟩⟩, fun g hg => (noF g hg).elim⟩
    | _ => rcases tellC_own ht rfl with ⟨k, hk⟩ | hk <;> simp at hk
  | ownn eo ei sz n L f =>
    obtain rfl := Option.some.inj he
    cases x with
    | row k =>
      simp only [TellC] at ht
      split at ht <;> (try (exact ht.elim))
      rename_i eo' ei' sz' n' L' f' hk
      obtain ⟨rfl, rfl, rfl, rfl, hff⟩ := ht
      obtain ⟨h0, u, xs, h1, h2, h3, h4, h5, h6⟩ := hR.hp k _ hk
      cases hv with
      | row hρ hvs =>
        obtain rfl := Option.some.inj (h1.symm.trans hρ)
        refine ⟨⟨⟨h0, u, xs, rfl, h2, h3, fun i hi => ?_, fun i j m m' x y b hi hj _ _ => h5 i j _ _ _ _ b hi hj rfl rfl, fun i m x b hi _ => h6 i _ _ b hi rfl⟩, fun g hg => ?_, hvs⟩, fun g hg => ⟨k, _, rfl, hk, hρ, foot_nest hg⟩⟩
        · obtain ⟨ys, q1, q2, q3, q4⟩ := h4 i hi
          obtain ⟨r1, r2⟩ := hff i hi
          rw [r1] at q1 q3 q4
          refine ⟨ys, q1, q2, fun j hj => by rw [← (r2 j hj).1]; exact q3 j hj, fun j q hj hq => ?_⟩
          have q5 := q4 j q hj hq
          rw [(r2 j hj).1] at q5
          exact all_atom (r2 j hj).2 (by rw [← (r2 j hj).1, q3 j hj]; exact hq) q5
        · have := hR.ow k _ u g hk hρ (foot_nest hg)
          exact ⟨hO g this.2.1, this.2.2⟩
    | d y =>
      rcases tellC_own ht rfl with ⟨k, hk⟩ | hk
      · simp at hk
      · obtain rfl : y = .v (.slice none 0 0) := by simpa using hk
        obtain ⟨rfl, hz⟩ := (show n = 0 ∧ Nat.blt 0 sz = true from ht)
        have h0 : 0 < sz := by have : 0 + 1 ≤ sz := by simpa [Nat.blt] using hz
                               omega
        have hvn := VR.atom hv
        have noF : ∀ g, ¬ foot w v (.nest eo ei sz 0 L f []) g := fun g hg => by
          rcases hg with hg | ⟨i, _, _, _, hi, _⟩
          · exact nil0 v hvn g hg
          · omega
        exact ⟨⟨⟨h0, v, [], rfl, ⟨by simp, .inl ⟨hvn, rfl⟩⟩, by simp, fun i hi => absurd hi (by omega), fun i j m m' x y b hi => absurd hi (by omega), fun i m x b hi => absurd hi (by omega)⟩, fun g hg => (noF g hg).elim, ⟨none, 0, 0, hvn⟩⟩, fun g hg => (noF g hg).elim⟩
    | _ => rcases tellC_own ht rfl with ⟨k, hk⟩ | hk <;> simp at hk

/-- A contract out of a body's walk. -/
theorem fnS_of (A : List (Nat × List Nat)) (hm : P.follows .mixedOrders = true) (hT : TOk P T) {g : FuncId} {fn : Func} {c : Code} (hf : P.funcs[g]? = some fn) (hb : fn.body = some c) (hn : (fn.name == "runtime.NumGoroutine") = false) (hc : codeOk fn.ntmps c = true) {lvs : List LV} {R : RV → Prop} (hl : Nat.ble lvs.length fn.ntmps = true)
    (h : lwp P T A c (entry lvs) (fun e s => ∃ r, R r ∧ FnPost T fn r e s)) : FnS P g lvs R := by
  refine ⟨⟨fn, hf, by simp [hb], hn⟩, fun W F vs hF hvl hvr => ?_⟩
  have hl : lvs.length ≤ fn.ntmps := by simpa using hl
  refine calls_of_wp hf hb ?_
  generalize ha : ({ tmps := vs.toArray ++ Array.replicate (fn.ntmps - vs.toArray.size) undef, defers := [] } : Act) = a0
  have hget : ∀ i, i < vs.length → a0.tmps.getD i undef = vs.getD i undef := by
    intro i hi
    rw [← ha]
    have h1 : i < vs.length + (fn.ntmps - vs.length) := by omega
    simp [Array.getD, h1, List.getD, hi, Array.getElem_append]
  have hR : Rel (fun b => W.heap.size ≤ b) fn.ntmps (fun _ => none) F (entry lvs) a0 W := by
    refine ⟨fun i => ?_, fun k e he => by simp [entry] at he, fun k e v g he => by simp [entry] at he, fun k k' e e' v v' g he => by simp [entry] at he, hF.1, by rw [← ha], by rw [← ha]; simp; omega, hF.2⟩
    by_cases hi : i < lvs.length
    · rw [hget i (by omega)]
      exact hvr i hi
    · have : (entry lvs).fr i = .bad := by simp [entry, List.getD, List.getElem?_eq_none (Nat.not_lt.1 hi)]
      rw [this]
      exact .bad _
  refine lwp_sound hm hT c (entry lvs) _ hc h _ F a0 W hR (fun _ _ => rfl) (Nat.le_refl _) (fun g hg => hg) _ (fun e s' ρ' I' a' w' hq hR' hF' hlo hnx htr => ?_)
  have hpost : ∀ r, R r → FnPost T fn r .ret s' → bodyPost P fn (fun e W' => ∃ v r, e = .returned v ∧ Below W.heap.size W W' ∧ R r ∧ RR W' W.heap.size F r v) .ret a' w' := by
    intro r hRr hq
    simp only [FnPost] at hq
    split at hq <;> (try (exact hq.elim))
    rename_i rl hrl
    split at hq <;> (try (exact hq.elim))
    rename_i fl hfl
    obtain ⟨vs', q1, q2, q3⟩ := run_results' (P := P) hT hR' hrl
    obtain ⟨t1, t2⟩ := tellCs_get hq.1
    have hB : Below W.heap.size W w' := ⟨htr.step.os, htr.step.tape, htr.step.output, htr.step.size, fun k hk => htr.step.keep k (by omega) hk⟩
    have hus : ∃ us : List Value, us.length = fl.length ∧ (∀ j, j < fl.length → VR ρ' w' I' (fl.getD j .bad) (us.getD j undef)) ∧ resVal vs' = r.val us := by
      match rl, r, hfl, q1, q2 with
      | [lv], .r x, hfl, q1, q2 =>
        match vs', q1 with
        | [v], _ =>
          obtain ⟨us, a1, a2, a3⟩ := flat1_sound (by simpa using q2 0 (by simp)) hfl
          exact ⟨us, a1, a2, by simpa [RV.val, resVal] using a3 [] []⟩
      | [], .tup xs, hfl, q1, q2 =>
        obtain ⟨us, a1, a2, a3⟩ := flats_sound [] vs' xs fl q1 q2 hfl
        obtain rfl : vs' = [] := by simpa using q1
        have := a3 []
        exact ⟨us, a1, a2, by simp only [RV.val, resVal]; simp only [List.nil_append, List.length_nil] at this; rw [← this]⟩
      | x1 :: x2 :: ls, .tup xs, hfl, q1, q2 =>
        obtain ⟨us, a1, a2, a3⟩ := flats_sound (x1 :: x2 :: ls) vs' xs fl q1 q2 hfl
        have := a3 []
        simp only [List.nil_append, List.length_nil] at this
        match vs', q1 with
        | v1 :: v2 :: vs2, _ => exact ⟨us, a1, a2, by simp only [RV.val, resVal]; rw [← this]⟩
    obtain ⟨us, u1, u2, u3⟩ := hus
    refine ⟨hR'.df, _, q3, _, r, rfl, hB, hRr, ⟨us, fun b => (I' b ∧ (r.leaves.any isSh = true ∨ W.heap.size ≤ b)) ∨ ∃ (j k : Nat) (y : D) (e : Ent) (v : Value), fl[j]? = some (LV.row k) ∧ r.leaves[j]? = some (RC.sh y) ∧ s'.hp k = some e ∧ ρ' k = some v ∧ foot w' v e b, by rw [u1, t1], u3, fun b hb => ?_, fun j c hc => ?_, fun j c e0 g hc ho hg hb => ?_, fun i j c d e0 e0' g hc hd o1 o2 b1 b2 => ?_⟩⟩
    · rcases hb with hb | ⟨j, k, y, e, v, _, _, p1, p2, p3⟩
      · rcases htr.im' b hb.1 with h1 | h1
        · rcases hb.2 with h2 | h2
          · exact .inl ⟨h2, h1⟩
          · exact .inr ⟨h2, hR'.lt b hb.1⟩
        · exact .inr ⟨h1, hR'.lt b hb.1⟩
      · exact .inr (hR'.ow k e v b p1 p2 p3).2
    · obtain ⟨x, hx, htl⟩ := t2 j c hc
      have hjl : j < fl.length := by
        rcases Nat.lt_or_ge j fl.length with h | h
        · exact h
        · simp [List.getElem?_eq_none h] at hx
      have hv := u2 j hjl
      rw [getD_some hx] at hv
      have hsh : isSh c = true → r.leaves.any isSh = true := fun h => List.any_eq_true.2 ⟨c, List.mem_of_getElem? hc, h⟩
      cases c with
      | v y =>
        cases x with
        | d z =>
          cases z with
          | v z =>
            obtain rfl : z = y := htl
            exact VR.atom hv
          | l n f => exact htl.elim
        | _ => exact htl.elim
      | sh y =>
        cases x with
        | d z =>
          have hle : DLe z y := by cases z <;> exact htl
          exact hle _ _ _ ((VR.data hv).mono (fun b hb => .inl ⟨hb, .inl (hsh rfl)⟩) (fun _ _ => rfl))
        | row k =>
          have hJ : ∀ b, Used ρ' w' I' s' [k] b → (I' b ∧ (r.leaves.any isSh = true ∨ W.heap.size ≤ b)) ∨ ∃ (j k : Nat) (y : D) (e : Ent) (v : Value), fl[j]? = some (LV.row k) ∧ r.leaves[j]? = some (RC.sh y) ∧ s'.hp k = some e ∧ ρ' k = some v ∧ foot w' v e b := by
            rintro b (hb | ⟨k', e2, v2, hk', p1, p2, p3⟩)
            · exact .inl ⟨hb, .inl (hsh rfl)⟩
            · obtain rfl : k' = k := by simpa using hk'
              exact .inr ⟨j, k', _, _, _, hx, hc, p1, p2, p3⟩
          simp only [TellC] at htl
          split at htl <;> (try (exact htl.elim))
          · rename_i e' sz' n' f' hk
            exact htl _ _ _ ((rowD hR' hv hk (ks := [k]) (by simp)).mono hJ (fun _ _ => rfl))
          · rename_i eo ei sz' n' L' f' hk
            exact htl _ _ _ ((nestD hR' hv hk (ks := [k]) (by simp)).mono hJ (fun _ _ => rfl))
        | _ => exact htl.elim
      | own e sz n f =>
        intro e0 he0
        exact (tell_own hR' (fun b hb => hb) hv htl he0 _).1
      | ownn eo ei sz n L f =>
        intro e0 he0
        exact (tell_own hR' (fun b hb => hb) hv htl he0 _).1
    · obtain ⟨x, hx, htl⟩ := t2 j c hc
      have hjl : j < fl.length := by
        rcases Nat.lt_or_ge j fl.length with h | h
        · exact h
        · simp [List.getElem?_eq_none h] at hx
      have hv := u2 j hjl
      rw [getD_some hx] at hv
      obtain ⟨k, e1, rfl, p1, p2, p3⟩ := (tell_own hR' (base := W.heap.size) (fun b hb => hb) hv htl ho (fun _ => False)).2 g hg
      rcases hb with hb | ⟨j2, k2, y2, e2, v2, q0, q1, q2, q3, q4⟩
      · exact (hR'.ow k _ _ g p1 p2 p3).1 hb.1
      · obtain rfl := hR'.ds k k2 _ _ _ _ g p1 q2 p2 q3 p3 q4
        obtain rfl := noDup_of hq.2 hx q0
        rw [hc] at q1
        obtain rfl := Option.some.inj q1
        simp [entOf] at ho
    · obtain ⟨x, hx, htx⟩ := t2 i c hc
      obtain ⟨y, hy, hty⟩ := t2 j d hd
      have key : ∀ (q : Nat) (z : LV) (c : RC) (e0 : Ent), fl[q]? = some z → TellC s' z c → entOf c = some e0 → foot w' (us.getD q undef) e0 g → ∃ k e1, z = .row k ∧ s'.hp k = some e1 ∧ ρ' k = some (us.getD q undef) ∧ foot w' (us.getD q undef) e1 g := by
        intro q z c e0 hz ht ho hbg
        have hql : q < fl.length := by
          rcases Nat.lt_or_ge q fl.length with h | h
          · exact h
          · simp [List.getElem?_eq_none h] at hz
        have hv := u2 q hql
        rw [getD_some hz] at hv
        exact (tell_own hR' (base := W.heap.size) (fun b hb => hb) hv ht ho (fun _ => False)).2 g hbg
      obtain ⟨k1, e1, rfl, p1, p2, p3⟩ := key i x c e0 hx htx o1 b1
      obtain ⟨k2, e2, rfl, p4, p5, p6⟩ := key j y d e0' hy hty o2 b2
      obtain rfl := hR'.ds k1 k2 e1 e2 _ _ g p1 p4 p2 p5 p3 p6
      exact noDup_of hq.2 hx hy
  obtain ⟨r, hRr, hq⟩ := hq
  cases e with
  | normal => exact hpost r hRr hq
  | ret => exact hpost r hRr hq
  | _ => exact hq.elim
theorem fnOK_of (A : List (Nat × List Nat)) (hm : P.follows .mixedOrders = true) (hT : TOk P T) {g : FuncId} {fn : Func} {c : Code} (hf : P.funcs[g]? = some fn) (hb : fn.body = some c) (hn : (fn.name == "runtime.NumGoroutine") = false) (hc : codeOk fn.ntmps c = true) {lvs : List LV} {r : RV} (hl : Nat.ble lvs.length fn.ntmps = true)
    (h : lwp P T A c (entry lvs) (FnPost T fn r)) : FnOK P g lvs r :=
  (fnS_of (R := fun x => x = r) A hm hT hf hb hn hc hl (by
    have e : (fun (e : Exit) s => ∃ x, x = r ∧ FnPost T fn x e s) = FnPost T fn r := by funext e s; simp
    rw [e]; exact h)).one

/-! tables of types -/
def look : List (Nat × TI) → TT
  | [], _ => none
  | (k, x) :: r, t => bif Nat.beq t k then some x else look r t
def allOk (P : Program) : List (Nat × TI) → Prop
  | [] => True
  | (k, x) :: r => TIok P k x ∧ allOk P r
theorem TOk.ofLook : ∀ {l : List (Nat × TI)}, allOk P l → TOk P (look l)
  | [], _, t, ti, h => by simp [look] at h
  | (k, x) :: r, h, t, ti, ht => by
    simp only [look] at ht
    cases hb : Nat.beq t k with
    | true =>
      rw [hb, cond_true] at ht
      obtain rfl := Option.some.inj ht
      obtain rfl : t = k := by simpa using hb
      exact h.1
    | false =>
      rw [hb, cond_false] at ht
      exact TOk.ofLook h.2 t ti ht
def structOf (P : Program) (t : TypeId) : Option (List (Nat × Option Nat × Option Bool)) := match P.underlying t with
  | some (.struct fs) => some (fs.toList.map fun f => (f.offset, (P.info? f.type).map (·.size), (P.underlying f.type).map aggD))
  | _ => none
theorem TIok.ofAgg {t : TypeId} {ti : TI} {fl : List (Nat × Nat × Bool)} (h1 : (P.info? t).map (fun i => (i.zero, i.size, i.bytes)) = some (some (.agg ti.zero.toArray), ti.size, ti.bytes))
    (h2 : structOf P t = some (fl.map fun x => (x.1, some x.2.1, some x.2.2))) (hk : ti.k = .agg fl) (hl : ti.zero.length = ti.size) (he : ti.cmp = true → EqS P t ti.size) : TIok P t ti := by
  refine ⟨he, ?_⟩
  obtain ⟨i, hi, hi2⟩ := Option.map_eq_some_iff.1 h1
  simp only [Prod.mk.injEq] at hi2
  unfold structOf at h2
  split at h2 <;> (try (simp at h2; done))
  rename_i fs hfs
  exact ⟨i, _, _, hi, hfs, hi2.1, hi2.2.1, hi2.2.2, rfl, hl, by rw [hk]; exact ⟨fs, rfl, rfl, Option.some.inj h2⟩⟩
theorem eqFields_ints (d : Nat) (w : World) (xs ys : List Int) : ∀ (fs : List Field) (o : Nat), fs.map (fun f => (f.offset, P.underlying f.type, f.name != "_")) = (List.range' o fs.length).map (fun i => (i, some (.int .i64), true)) → o + fs.length = xs.length → o + fs.length = ys.length →
    (Op.eqFields (d + 1) (intsV xs) (intsV ys) fs).run P w = .ok (xs.drop o == ys.drop o) w
  | [], o, _, h1, h2 => by
    simp only [List.length_nil, Nat.add_zero] at h1 h2
    rw [List.drop_eq_nil_of_le (by omega), List.drop_eq_nil_of_le (by omega)]
    simp [Op.eqFields]
  | f :: fs, o, h, h1, h2 => by
    simp only [List.map_cons, List.length_cons, List.range'_succ, List.cons.injEq, Prod.mk.injEq] at h
    obtain ⟨⟨e1, e2, e3⟩, h⟩ := h
    simp only [List.length_cons] at h1 h2
    have hn : f.name ≠ "_" := by simpa using e3
    have part1 : ∀ zs : List Int, o < zs.length → (part f.type (intsV zs) f.offset).run P w = .ok (.int .i64 (zs.getD o 0)) w := by
      intro zs hz
      have hz2 : (intsV zs)[o]? = some (.int .i64 (zs.getD o 0)) := by simp [intsV, List.getD, hz]
      simp only [part, Sem.run_bind, run_isAgg e2, aggD, Result.andThen_ok, Bool.false_eq_true, if_false, e1, hz2, Sem.run_pure]
    have dr : ∀ zs : List Int, o < zs.length → zs.drop o = zs.getD o 0 :: zs.drop (o + 1) := by
      intro zs hz
      rw [List.drop_eq_getElem_cons hz]
      simp [List.getD, hz]
    simp only [Op.eqFields]
    rw [if_pos hn]
    simp only [Sem.run_bind, part1 xs (by omega), part1 ys (by omega), Result.andThen_ok, Op.equalIn, run_underlying e2, if_true, Sem.run_pure]
    rw [dr xs (by omega), dr ys (by omega), List.cons_beq_cons]
    cases hb : xs.getD o 0 == ys.getD o 0
    · simp
    · simp only [Bool.not_true, Bool.false_eq_true, if_false, Bool.true_and]
      exact eqFields_ints d w xs ys fs (o + 1) h (by omega) (by omega)
def fieldsC (P : Program) (t : TypeId) : Option (List (Nat × Option TypeDesc × Bool)) := match P.underlying t with
  | some (.struct fs) => some (fs.toList.map fun f => (f.offset, P.underlying f.type, f.name != "_"))
  | _ => none
theorem EqS.of {t : TypeId} {n : Nat} (h : fieldsC P t = some ((List.range' 0 n).map fun i => (i, some (.int .i64), true))) (hs : P.stoodInHeld t = false) (hg : P.eqGuardType P.depth t = false) : EqS P t n := by
  refine ⟨hg, fun w xs ys h1 h2 => ?_⟩
  unfold fieldsC at h
  split at h <;> (try (simp at h; done))
  rename_i fs hfs
  have hfo : P.fieldsOf t = fs := by unfold Program.fieldsOf; rw [hfs]
  have h := Option.some.inj h
  have hlen : fs.toList.length = n := by have := congrArg List.length h; simpa using this
  have := run_equalIn_struct (P := P) w 9999 t (intsV xs) (intsV ys) (by rw [hfo]; exact hfs) hs
  unfold Op.equal
  rw [show Op.maxDepth = 9999 + 1 from rfl, this, hfo]
  have r := eqFields_ints (P := P) 9998 w xs ys fs.toList 0 (by rw [hlen]; exact h) (by omega) (by omega)
  simpa using r
theorem TIok.ofOne {t : TypeId} {ti : TI} {z : Value} {d : TypeDesc} (h1 : (P.info? t).map (fun i => (i.zero, i.size, i.bytes)) = some (some z, ti.size, ti.bytes)) (h2 : P.underlying t = some d)
    (hz : ti.zero = [z]) (hc : z.cells = #[z]) (hl : ti.zero.length = ti.size) (hk : TKok P d z ti ti.k) (he : ti.cmp = false) : TIok P t ti := by
  refine ⟨fun e => (by rw [he] at e; cases e), ?_⟩
  obtain ⟨i, hi, hi2⟩ := Option.map_eq_some_iff.1 h1
  simp only [Prod.mk.injEq] at hi2
  exact ⟨i, d, z, hi, h2, hi2.1, hi2.2.1, hi2.2.2, by rw [hz, hc], hl, hk⟩
end
end Go.Proofs.YtojaakpnpdnbhaaGreatDoor.L
