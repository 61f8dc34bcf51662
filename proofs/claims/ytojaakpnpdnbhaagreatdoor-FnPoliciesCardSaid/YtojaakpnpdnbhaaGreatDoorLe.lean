/- The operations of the symbolic logic are true of the machine's: places of elements, cuts, lengths. -/
import Derived.Test.YtojaakpnpdnbhaaGreatDoorLd
set_option linter.unusedVariables false
set_option linter.unusedSimpArgs false
namespace Go.Proofs.YtojaakpnpdnbhaaGreatDoor.L
open Go.RowKit
section
variable {P : Program} {T : TT} {O : Nat → Prop} {nt : Nat} {ρ : Nat → Option Value} {I : Nat → Prop} {s : LS} {a : Act} {w : World} {kb : Nat} {o : Oper} {p : Prop} {s' : LS}

/-- a type that is told to be a slice -/
theorem slice_at (hT : TOk P T) {t : TypeId} {ti : TI} (ht : T t = some ti) {e : TypeId} (hk : ti.k = .slice e) : P.underlying t = some (.slice e) := by
  obtain ⟨i, d, z, hi, hu, hz, hsz, hby, hc, hl, hkk⟩ := (hT t ti ht).ex
  rw [hk] at hkk
  rw [hu, show d = .slice e from hkk]

theorem sound_indexAddr (hT : TOk P T) {t : TypeId} {x y : Operand} (ho : o.op = .indexAddr t x y) (h : opF T kb o s = some (p, s')) (hp : p) (hR : Rel O nt ρ I s a w) (hd : ∀ d, o.dst = some d → d < nt) : Does P O nt ρ I kb o s s' a w := by
  have hx := leval_sound hR x
  have hy := leval_sound hR y
  unfold opF at h
  simp only [ho] at h
  split at h <;> (try (simp at h; done))
  rename_i ti ht
  split at h <;> (try (simp at h; done))
  rename_i e hk
  have hu := slice_at hT ht hk
  split at h <;> (try (simp at h; done))
  rename_i te hte
  obtain ⟨ie, de, ze, hie, hue, hze, hsze, hbye, hce, hle, hkke⟩ := (hT e te hte).ex
  split at h <;> (try (simp at h; done))
  rename_i k i hly
  rw [hly] at hy
  have hy := VR.atom hy
  have run : ∀ ad n c, a.eval x = .slice (some ad) n c → 0 ≤ i → i < (n : Int) → (execOp a.eval o).run P w = .ok (.value (.pointer (some (ad.add (i.toNat * te.size))))) w := by
    intro ad n c hax h0 h1
    simp only [execOp, ho, hax, hy, Instr.indexAt, asIntOf, run_underlying hu, run_sizeOf' hie, hsze, h0, h1, and_self, if_true, Sem.run_bind, Result.andThen_ok, Sem.run_pure]
  generalize hax : a.eval x = vx at hx
  split at h
  · rename_i n f hlx
    simp only [Option.some.injEq, Prod.mk.injEq] at h
    obtain ⟨rfl, rfl⟩ := h
    rw [hlx] at hx
    have hx := VR.data hx
    obtain ⟨h0, h1, h2⟩ := hp
    cases hx with
    | nil f A c => omega
    | l n f ad c sz vs h3 hc hI hs hz hl hv h4 hr =>
      have hi : i.toNat < n := by omega
      have hsz : sz = te.size := by rw [← hl _ hi, h2]
      refine Does.value hR hd (run ad n c hax h0 h1) (.dptr (fun j => vs i.toNat j) (add_spot _ hs _) (by rw [add_block]; exact hI) (fun j hj => ?_) (fun j hj => ?_))
      · rw [add_add _ hs, ← hsz]
        exact hv _ _ hi (by rw [h2, ← hsz] at hj; exact hj)
      · exact hr _ _ hi (by rw [h2, ← hsz] at hj; exact hj)
  · rename_i k' hlx
    split at h <;> (try (simp at h; done))
    rename_i e' sz n f hk'
    obtain ⟨hsz, h1⟩ := bif_some h
    clear h
    simp only [Option.some.injEq, Prod.mk.injEq] at h1
    obtain ⟨rfl, rfl⟩ := h1
    obtain rfl : sz = te.size := by simpa using hsz
    rw [hlx] at hx
    obtain ⟨h0, u, xs, h2, h3, h4, h5, h6⟩ := hR.hp k' _ hk'
    cases hx with
    | row hρ hv =>
      obtain rfl := Option.some.inj (h2.symm.trans hρ)
      rcases h3.2 with ⟨rfl, rfl⟩ | ⟨g, cap, cur, rfl, _⟩
      · omega
      · refine Does.value hR hd (run _ _ _ hax hp.1 hp.2) ?_
        rw [Addr.add_lit]
        have := VR.eptr (w := w) (I := I) (sz := te.size) (i := i.toNat) (off := 0) hρ
        simpa using this
  · simp at h

theorem sound_index (hT : TOk P T) {t : TypeId} {x y : Operand} (ho : o.op = .index t x y) (h : opF T kb o s = some (p, s')) (hp : p) (hR : Rel O nt ρ I s a w) (hd : ∀ d, o.dst = some d → d < nt) : Does P O nt ρ I kb o s s' a w := by
  have hx := leval_sound hR x
  have hy := leval_sound hR y
  unfold opF at h
  simp only [ho] at h
  split at h <;> (try (simp at h; done))
  rename_i ti ht
  split at h <;> (try (simp at h; done))
  rename_i b k i hk hlx hly
  obtain ⟨ie, de, ze, hie, hue, hze, hsze, hbye, hce, hle, hkke⟩ := (hT t ti ht).ex
  rw [hk] at hkke
  obtain rfl : de = .string := hkke
  rw [hlx] at hx
  rw [hly] at hy
  have hx := VR.atom hx
  have hy := VR.atom hy
  simp only [Option.some.injEq, Prod.mk.injEq] at h
  obtain ⟨rfl, rfl⟩ := h
  refine Does.value hR hd (v := .int .u8 (strAt b i)) ?_ (.d (.v _))
  have hi : i.toNat < b.size := by omega
  have hb : b[i.toNat]? = some b[i.toNat] := by simp [hi]
  have hsa : strAt b i = (b[i.toNat].toNat : Int) := by
    unfold strAt
    have : b.data.toList.getD i.toNat 0 = b[i.toNat] := by
      have h2 : i.toNat < b.data.toList.length := by simpa using hi
      simp [List.getD, List.getElem?_eq_getElem h2]
      rfl
    rw [this]
  simp only [execOp, ho, hx, hy, Instr.index, asIntOf, run_underlying hue, hp.1, if_true, hb, hsa, Sem.run_bind, Result.andThen_ok, Sem.run_pure]

theorem sound_makeFunc {f : FuncId} {first caps : Array Operand} (ho : o.op = .makeFunc (.func f) first caps) (h : opF T kb o s = some (p, s')) (hR : Rel O nt ρ I s a w) (hd : ∀ d, o.dst = some d → d < nt) : Does P O nt ρ I kb o s s' a w := by
  unfold opF at h
  simp only [ho] at h
  obtain ⟨h0, h1⟩ := bif_some h
  clear h
  have h0 : first = #[] := by simpa using h0
  subst h0
  simp only [Option.some.injEq, Prod.mk.injEq] at h1
  obtain ⟨rfl, rfl⟩ := h1
  refine Does.value hR hd (v := .func (.func f) #[] (caps.map a.eval)) ?_ (.fn (by simp) (fun j hj => ?_))
  · simp only [execOp, ho, Instr.makeFunc, Sem.run_bind, Result.andThen_ok, Sem.run_pure, Array.map_empty]
  · have hj' : j < caps.size := by simpa using hj
    have e1 : (caps.toList.map (leval s)).getD j .bad = leval s caps[j] := by simp [List.getD, hj']
    have e2 : (caps.map a.eval).getD j undef = a.eval caps[j] := by simp [Array.getD, hj']
    rw [e1, e2]
    exact leval_sound hR _

theorem sound_extract {x : Operand} {j : Nat} (ho : o.op = .extract x j) (h : opF T kb o s = some (p, s')) (hR : Rel O nt ρ I s a w) (hd : ∀ d, o.dst = some d → d < nt) : Does P O nt ρ I kb o s s' a w := by
  have hx := leval_sound hR x
  unfold opF at h
  simp only [ho] at h
  split at h <;> (try (simp at h; done))
  rename_i cs hlx
  split at h <;> (try (simp at h; done))
  rename_i r hr
  simp only [Option.some.injEq, Prod.mk.injEq] at h
  obtain ⟨rfl, rfl⟩ := h
  rw [hlx] at hx
  generalize hax : a.eval x = vx at hx
  cases hx with
  | tup hl hc =>
    rename_i us
    have hj : j < cs.length := by
      rcases Nat.lt_or_ge j cs.length with h | h
      · exact h
      · simp [List.getElem?_eq_none h] at hr
    have hj' : j < us.size := by omega
    have := hc j hj
    simp only [List.getD, hr, Option.getD_some, Array.getD, hj', dif_pos] at this
    refine Does.value hR hd (v := us[j]) ?_ this
    simp only [execOp, ho, hax, Instr.extract, hj', Array.getElem?_eq_getElem, Sem.run_bind, Result.andThen_ok, Sem.run_pure]

theorem slLen_sound (hR : Rel O nt ρ I s a w) {x : LV} {v : Value} (hx : VR ρ w I x v) {n : Nat} (h : slLen s x = some n) : ∃ A c, v = .slice A n c := by
  unfold slLen at h
  split at h
  · obtain rfl := Option.some.inj h
    have hx := VR.data hx
    cases hx with
    | nil => exact ⟨_, _, rfl⟩
    | l => exact ⟨_, _, rfl⟩
  · obtain rfl := Option.some.inj h
    exact ⟨_, _, VR.atom hx⟩
  · rename_i k
    split at h <;> (try (simp at h; done))
    rename_i e sz n' f hk
    obtain rfl := Option.some.inj h
    obtain ⟨h0, u, xs, h2, h3, h4, h5, h6⟩ := hR.hp k _ hk
    cases hx with
    | row hρ hv =>
      obtain rfl := Option.some.inj (h2.symm.trans hρ)
      rcases h3.2 with ⟨rfl, rfl⟩ | ⟨g, cap, cur, rfl, _⟩
      · exact ⟨_, _, rfl⟩
      · exact ⟨_, _, rfl⟩
  · simp at h

theorem sound_len (hT : TOk P T) {args : Array Operand} {ts : Array TypeId} (ho : o.op = .call { callee := .builtin .len, args := args, argTypes := ts }) (h : opF T kb o s = some (p, s')) (hR : Rel O nt ρ I s a w) (hd : ∀ d, o.dst = some d → d < nt) : Does P O nt ρ I kb o s s' a w := by
  unfold opF at h
  simp only [ho] at h
  split at h <;> (try (simp at h; done))
  rename_i x t hargs hts
  obtain rfl : args = #[x] := by cases args; simp_all
  obtain rfl : ts = #[t] := by cases ts; simp_all
  have hx := leval_sound hR x
  split at h <;> (try (simp at h; done))
  rename_i ti ht
  obtain ⟨ie, de, ze, hie, hue, hze, hsze, hbye, hce, hle, hkke⟩ := (hT t ti ht).ex
  have run : ∀ n : Nat, (Builtin.len_ #[t] o.type #[a.eval x]).run P w = .ok (.int .i64 n) w → (execOp a.eval o).run P w = .ok (.value (.int .i64 n)) w := by
    intro n hn
    simp only [execOp, ho, resolve, invoke, builtin, List.map_toArray, List.map_cons, List.map_nil, hn, Sem.run_bind, Result.andThen_ok, Sem.run_pure]
  split at h
  · rename_i b hk hlx
    rw [hk] at hkke
    obtain rfl : de = .string := hkke
    rw [hlx] at hx
    have hx := VR.atom hx
    simp only [Option.some.injEq, Prod.mk.injEq] at h
    obtain ⟨rfl, rfl⟩ := h
    refine Does.value hR hd (run b.size ?_) (.d (.v _))
    simp [Builtin.len_, run_underlying hue, hx, goInt]
  · rename_i y e hk
    rw [hk] at hkke
    obtain rfl : de = .slice e := hkke
    split at h <;> (try (simp at h; done))
    rename_i n hn
    simp only [Option.some.injEq, Prod.mk.injEq] at h
    obtain ⟨rfl, rfl⟩ := h
    obtain ⟨A, c, hax⟩ := slLen_sound hR hx hn
    refine Does.value hR hd (run n ?_) (.d (.v _))
    simp [Builtin.len_, run_underlying hue, hax, goInt]
  · simp at h

theorem run_bound {k : IntKind} {i : Int} {y : Nat} {code : BoundsCode} (h : 0 ≤ i ∧ i ≤ (y : Int)) : (Instr.sliceBound (.int k i) y code).run P w = .ok i.toNat w := by
  simp only [Instr.sliceBound, asIntOf, h, and_self, if_true, Sem.run_bind, Result.andThen_ok, Sem.run_pure]

/-- a part of a slice that is read -/
theorem Rd.part {n : Nat} {f : Nat → List D} {A : Option Addr} {c l h te : Nat} (hx : Rd w I (.l n f) (.slice A n c)) (hlh : l ≤ h) (hn : h ≤ n) (hz : l = 0 ∨ ∀ i, i < n → (f i).length = te) :
    Rd w I (.l (h - l) fun i => f (l + i)) (.slice (if c = l then A else A.map (·.add (l * te))) (h - l) (c - l)) := by
  rcases Nat.eq_zero_or_pos (h - l) with h0 | h0
  · rw [h0]; exact .nil _ _ _
  · cases hx with
    | nil => omega
    | l n f ad c sz vs h3 hc hI hs hz' hl hv h4 hr =>
      have hcl : ¬ c = l := by omega
      rw [if_neg hcl]
      have hsz : l * te = l * sz := by
        rcases hz with rfl | hz
        · simp
        · rw [← hl 0 h3, hz 0 h3]
      refine .l _ _ _ _ sz (fun i j => vs (l + i) j) h0 (by omega) (by rw [add_block]; exact hI) (add_spot _ hs _) hz' (fun i hi => hl _ (by omega)) (fun i j hi hj => ?_) (fun i j hi hj => h4 _ _ (by omega) hj) (fun i j hi hj => hr _ _ (by omega) hj)
      rw [add_add _ hs, hsz, ← Nat.add_assoc, ← Nat.add_mul]
      exact hv _ _ (by omega) hj

theorem Rd.sl {n : Nat} {f : Nat → List D} {v : Value} (hx : Rd w I (.l n f) v) : ∃ A c, v = .slice A n c ∧ n ≤ c := by
  cases hx with
  | nil f A c => exact ⟨_, _, rfl, by omega⟩
  | l n f ad c sz vs h3 hc => exact ⟨_, _, rfl, hc⟩

theorem optI_sound (hR : Rel O nt ρ I s a w) {q : Option Operand} {dflt i : Int} (h : optI s q dflt = some i) : (q = none ∧ i = dflt) ∨ ∃ k, q.map a.eval = some (.int k i) := by
  cases q with
  | none => exact .inl ⟨rfl, by simpa [optI] using h.symm⟩
  | some q =>
    right
    simp only [optI] at h
    have := leval_sound hR q
    split at h <;> (try (simp at h; done))
    rename_i k i' hq
    obtain rfl := Option.some.inj h
    rw [hq] at this
    exact ⟨k, by rw [Option.map_some, VR.atom this]⟩

/-- where a cut begins and ends -/
theorem run_bounds (hR : Rel O nt ρ I s a w) {b : Bool} {len cap : Nat} {lo hi : Option Operand} {l h : Int} (hl : optI s lo 0 = some l) (hh : optI s hi len = some h) (h0 : 0 ≤ l) (h1 : l ≤ h) (h2 : h ≤ (len : Int)) (h3 : len ≤ cap) :
    (Instr.sliceBounds b len cap (lo.map a.eval) (hi.map a.eval) none).run P w = .ok (l.toNat, h.toNat, cap) w := by
  have hl := optI_sound hR hl
  have hh := optI_sound hR hh
  have two : ∀ (q : Option Value) (n : Nat), (q = none ∧ n = h.toNat) ∨ (∃ k, q = some (.int k h)) → True := fun _ _ _ => trivial
  rcases hl with ⟨rfl, rfl⟩ | ⟨k, hl⟩ <;> rcases hh with ⟨rfl, rfl⟩ | ⟨k', hh⟩
  · simp [Instr.sliceBounds]
  · simp only [Instr.sliceBounds, hh, Option.map_none, Sem.run_bind, Sem.run_pure, Result.andThen_ok, run_bound (show 0 ≤ h ∧ h ≤ (cap : Int) by omega), Int.toNat_zero]
  · simp only [Instr.sliceBounds, hl, Option.map_none, Sem.run_bind, Sem.run_pure, Result.andThen_ok, run_bound (show 0 ≤ l ∧ l ≤ (len : Int) by omega), Int.toNat_natCast, Option.isSome_none]
  · simp only [Instr.sliceBounds, hl, hh, Sem.run_bind, Sem.run_pure, Result.andThen_ok, run_bound (show 0 ≤ h ∧ h ≤ (cap : Int) by omega), run_bound (show 0 ≤ l ∧ l ≤ (h.toNat : Int) by omega), Option.isSome_none]

theorem sound_slice (hT : TOk P T) {t : TypeId} {x : Operand} {lo hi : Option Operand} (ho : o.op = .slice t x lo hi none) (h : opF T kb o s = some (p, s')) (hp : p) (hR : Rel O nt ρ I s a w) (hd : ∀ d, o.dst = some d → d < nt) : Does P O nt ρ I kb o s s' a w := by
  have hx := leval_sound hR x
  unfold opF at h
  simp only [ho] at h
  split at h <;> (try (simp at h; done))
  rename_i ti ht
  obtain ⟨ie, de, ze, hie, hue, hze, hsze, hbye, hce, hle, hkke⟩ := (hT t ti ht).ex
  have run : ∀ v, (Instr.slice t (a.eval x) (lo.map a.eval) (hi.map a.eval) none).run P w = .ok v w → aggD de = false → (execOp a.eval o).run P w = .ok (.value v) w := by
    intro v hv hag
    have : (Instr.sliceAt t (a.eval x) (lo.map a.eval) (hi.map a.eval) none).run P w = .ok v w := by
      simp only [Instr.sliceAt, Sem.run_bind, run_underlying hue, Result.andThen_ok]
      cases de <;> first | exact hv | (simp [aggD] at hag)
    simp only [execOp, ho, this, Option.map_none, Sem.run_bind, Result.andThen_ok, Sem.run_pure]
  split at h <;> (try (simp at h; done))
  · rename_i e n f hk hlx
    rw [hk] at hkke
    obtain rfl : de = .slice e := hkke
    rw [hlx] at hx
    split at h <;> (try (simp at h; done))
    rename_i l hh te hlo hhi hte
    obtain ⟨ie2, de2, ze2, hie2, hue2, hze2, hsze2, hbye2, hce2, hle2, hkke2⟩ := (hT e te hte).ex
    simp only [Option.some.injEq, Prod.mk.injEq] at h
    obtain ⟨rfl, rfl⟩ := h
    obtain ⟨h0, h1, h2, h3⟩ := hp
    obtain ⟨A, c, hax, hnc⟩ := (VR.data hx).sl
    rw [hax] at hx run
    have hb := run_bounds (P := P) (b := true) hR hlo hhi h0 h1 h2 hnc
    have hz := (VR.data hx).part (l := l.toNat) (h := hh.toNat) (te := te.size) (by omega) (by omega) (by rcases h3 with h3 | h3; (left; omega); (right; exact h3))
    have e1 : hh.toNat - l.toNat = (hh - l).toNat := by omega
    rw [e1] at hz
    refine Does.value hR hd (run (.slice (if c = l.toNat then A else A.map (·.add (l.toNat * te.size))) (hh - l).toNat (c - l.toNat)) ?_ rfl) (.d ?_)
    · simp only [Instr.slice, run_underlying hue, hb, run_sizeOf' hie2, hsze2, e1, Sem.run_bind, Sem.run_pure, Result.andThen_ok]
    · cases lo with
      | some q => exact hz
      | none =>
        obtain rfl : l = 0 := by simpa [optI] using hlo.symm
        simpa [cutF] using hz
  · rename_i b hk hlx
    rw [hk] at hkke
    obtain rfl : de = .string := hkke
    rw [hlx] at hx
    have hx := VR.atom hx
    split at h <;> (try (simp at h; done))
    rename_i l hh hlo hhi
    simp only [Option.some.injEq, Prod.mk.injEq] at h
    obtain ⟨rfl, rfl⟩ := h
    obtain ⟨h0, h1, h2⟩ := hp
    have hb := run_bounds (P := P) (b := false) (cap := b.size) hR hlo hhi h0 h1 h2 (Nat.le_refl _)
    rw [hx] at run
    refine Does.value hR hd (run (.string (b.extract l.toNat hh.toNat)) ?_ rfl) (.d (.v _))
    simp only [Instr.slice, run_underlying hue, hb, Sem.run_bind, Sem.run_pure, Result.andThen_ok, Option.isSome_none, Bool.false_eq_true, if_false]
end
end Go.Proofs.YtojaakpnpdnbhaaGreatDoor.L
