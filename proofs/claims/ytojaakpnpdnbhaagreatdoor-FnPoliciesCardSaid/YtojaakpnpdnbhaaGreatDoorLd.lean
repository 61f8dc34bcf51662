/- The operations of the symbolic logic are true of the machine's: those that only compute. -/
import Derived.Test.YtojaakpnpdnbhaaGreatDoorLc
set_option linter.unusedVariables false
set_option linter.unusedSimpArgs false
namespace Go.Proofs.YtojaakpnpdnbhaaGreatDoor.L
open Go.RowKit
section
variable {P : Program} {T : TT} {O : Nat → Prop} {nt : Nat} {ρ : Nat → Option Value} {I : Nat → Prop} {s : LS} {a : Act} {w : World} {kb : Nat} {o : Oper} {p : Prop} {s' : LS}

theorem sound_move {x : Operand} (ho : o.op = .move x ∨ o.op = .assign x) (h : opF T kb o s = some (p, s')) (hR : Rel O nt ρ I s a w) (hd : ∀ d, o.dst = some d → d < nt) : Does P O nt ρ I kb o s s' a w := by
  have e : p = True ∧ s' = s.put o.dst (leval s x) := by
    rcases ho with ho | ho <;> (unfold opF at h; simp only [ho, Option.some.injEq, Prod.mk.injEq] at h; exact ⟨h.1.symm, h.2.symm⟩)
  obtain ⟨rfl, rfl⟩ := e
  refine Does.value hR hd (v := a.eval x) ?_ (leval_sound hR x)
  rcases ho with ho | ho <;> simp only [execOp, ho, Sem.run_pure]

theorem pick_sound {t : Bool} {x y r : LV} {u v : Value} (hx : VR ρ w I x u) (hy : VR ρ w I y v) (h : pickLV t x y = some r) : VR ρ w I r (if t = true then u else v) := by
  cases t with
  | true =>
    obtain rfl := Option.some.inj h
    exact hx
  | false =>
    obtain rfl := Option.some.inj h
    exact hy

theorem sound_pick {c x y : Operand} (ho : o.op = .pick c x y) (h : opF T kb o s = some (p, s')) (hR : Rel O nt ρ I s a w) (hd : ∀ d, o.dst = some d → d < nt) : Does P O nt ρ I kb o s s' a w := by
  have hc := leval_sound hR c
  have hx := leval_sound hR x
  have hy := leval_sound hR y
  unfold opF at h
  simp only [ho] at h
  split at h
  · rename_i t hct
    rw [hct] at hc
    have hc := VR.atom hc
    split at h
    · rename_i r hr
      simp only [Option.some.injEq, Prod.mk.injEq] at h
      obtain ⟨rfl, rfl⟩ := h
      refine Does.value hR hd (v := if t = true then a.eval x else a.eval y) ?_ (pick_sound hx hy hr)
      simp only [execOp, ho, hc, asBool, Sem.run_bind, Sem.run_pure, Result.andThen_ok]
    · simp at h
  · simp at h

theorem intsOf_cells : ∀ {cs : List LV} {xs : List Int}, intsOf cs = some xs → cs.length = xs.length ∧ ∀ j, j < xs.length → cs.getD j .bad = .d (.v (.int .i64 (xs.getD j 0)))
  | [], xs, h => by
    obtain rfl := Option.some.inj h
    exact ⟨rfl, fun j hj => absurd hj (by simp)⟩
  | c :: cs, xs, h => by
    unfold intsOf at h
    split at h <;> (try (simp at h; done))
    · rename_i e; simp at e
    · rename_i a ds e
      obtain ⟨rfl, rfl⟩ := List.cons.inj e
      split at h <;> (try (simp at h; done))
      rename_i l hl
      obtain rfl := Option.some.inj h
      obtain ⟨h1, h2⟩ := intsOf_cells hl
      refine ⟨by simp [h1], fun j hj => ?_⟩
      cases j with
      | zero => rfl
      | succ j => simpa using h2 j (by simpa using hj)
theorem intsOf_sound {cs : List LV} {xs : List Int} {v : Value} (h : VR ρ w I (.agg cs) v) (hx : intsOf cs = some xs) : v = .agg (intsV xs) := by
  obtain ⟨h1, h2⟩ := intsOf_cells hx
  cases h with
  | @agg _ us hl hc =>
    congr 1
    apply Array.ext
    · simp [intsV]; omega
    · intro j hj1 hj2
      have hj : j < cs.length := by omega
      have := hc j hj
      rw [h2 j (by omega)] at this
      have := VR.atom this
      simp only [Array.getD, hj1, dif_pos] at this
      rw [show us[j] = _ from this]
      have hjx : j < xs.length := by omega
      simp [intsV, List.getD, hjx]

theorem run_eqGuard_agg {t : TypeId} (hg : P.eqGuardType P.depth t = false) (op : BinOp) (X Y : Operand) (xs ys : Array Value) : (eqGuard op t X Y (.agg xs) (.agg ys)).run P w = .ok () w := by
  unfold eqGuard
  simp only [Sem.run_bind, Sem.run_ite, run_program, Result.andThen_ok, hg, Bool.not_false, if_true, Sem.run_pure]
  split <;> simp

theorem sound_bin (hT : TOk P T) {op : BinOp} {t t' : TypeId} {x y : Operand} (ho : o.op = .binOp op t x y t') (h : opF T kb o s = some (p, s')) (hp : p) (hR : Rel O nt ρ I s a w) (hd : ∀ d, o.dst = some d → d < nt) : Does P O nt ρ I kb o s s' a w := by
  have hx := leval_sound hR x
  have hy := leval_sound hR y
  unfold opF at h
  simp only [ho] at h
  split at h
  · rename_i ti ht
    obtain ⟨i, d, z, hi, hu, hz, hsz, hby, hc, hl, hk⟩ := (hT t ti ht).ex
    split at h
    · rename_i u v hlx hly
      rw [hlx] at hx
      rw [hly] at hy
      obtain hx := VR.atom hx
      obtain hy := VR.atom hy
      split at h
      · rename_i p' r hb
        simp only [Option.some.injEq, Prod.mk.injEq] at h
        obtain ⟨rfl, rfl⟩ := h
        have hrun := bin2_sound (P := P) (w := w) (d := d) hu (fun e => by rw [e] at hk; exact hk) hb hp x y
        simp only [Sem.run_bind] at hrun
        refine Does.value hR hd (v := r) ?_ (.d (.v r))
        simp only [execOp, ho, hx, hy, Sem.run_bind, hrun, Result.andThen_ok, Sem.run_pure]
      · simp at h
    · rename_i cs ds hlx hly
      rw [hlx] at hx
      rw [hly] at hy
      split at h <;> (try (simp at h; done))
      rename_i xs ys hxs hys
      obtain ⟨hb, h⟩ := bif_some h
      simp only [Bool.and_eq_true, Nat.beq_eq] at hb
      obtain ⟨hg, heq⟩ := (hT t ti ht).eqs hb.1.1
      have hvx := intsOf_sound hx hxs
      have hvy := intsOf_sound hy hys
      have hrun := heq w xs ys hb.1.2 hb.2
      split at h <;> (try (simp at h; done))
      · simp only [Option.some.injEq, Prod.mk.injEq] at h
        obtain ⟨_, rfl⟩ := h
        refine Does.value hR hd (v := .bool (xs == ys)) ?_ (.d (.v _))
        simp only [execOp, ho, hvx, hvy, run_eqGuard_agg hg, binOp, Sem.run_bind, Sem.run_pure, Result.andThen_ok, hrun]
      · simp only [Option.some.injEq, Prod.mk.injEq] at h
        obtain ⟨_, rfl⟩ := h
        refine Does.value hR hd (v := .bool (!(xs == ys))) ?_ (.d (.v _))
        simp only [execOp, ho, hvx, hvy, run_eqGuard_agg hg, binOp, Sem.run_bind, Sem.run_pure, Result.andThen_ok, hrun]
    · simp at h
  · simp at h

theorem sound_max {args : Array Operand} {ts : Array TypeId} (ho : o.op = .call { callee := .builtin .max, args := args, argTypes := ts }) (h : opF T kb o s = some (p, s')) (hR : Rel O nt ρ I s a w) (hd : ∀ d, o.dst = some d → d < nt) : Does P O nt ρ I kb o s s' a w := by
  unfold opF at h
  simp only [ho] at h
  split at h <;> (try (simp at h; done))
  rename_i x y hargs
  have hx := leval_sound hR x
  have hy := leval_sound hR y
  split at h <;> (try (simp at h; done))
  rename_i k u k' v hlx hly
  rw [hlx] at hx
  rw [hly] at hy
  obtain hx := VR.atom hx
  obtain hy := VR.atom hy
  simp only [Option.some.injEq, Prod.mk.injEq] at h
  obtain ⟨_, rfl⟩ := h
  refine Does.value hR hd (v := .int k (if v > u then v else u)) ?_ (.d (.v _))
  obtain rfl : args = #[x, y] := by rw [← Array.toList_inj, hargs]
  simp [execOp, ho, hx, hy, resolve, invoke, builtin, Builtin.max_, Builtin.max2]
theorem sound_min {args : Array Operand} {ts : Array TypeId} (ho : o.op = .call { callee := .builtin .min, args := args, argTypes := ts }) (h : opF T kb o s = some (p, s')) (hR : Rel O nt ρ I s a w) (hd : ∀ d, o.dst = some d → d < nt) : Does P O nt ρ I kb o s s' a w := by
  unfold opF at h
  simp only [ho] at h
  split at h <;> (try (simp at h; done))
  rename_i x y hargs
  have hx := leval_sound hR x
  have hy := leval_sound hR y
  split at h <;> (try (simp at h; done))
  rename_i k u k' v hlx hly
  rw [hlx] at hx
  rw [hly] at hy
  obtain hx := VR.atom hx
  obtain hy := VR.atom hy
  simp only [Option.some.injEq, Prod.mk.injEq] at h
  obtain ⟨_, rfl⟩ := h
  refine Does.value hR hd (v := .int k (if v < u then v else u)) ?_ (.d (.v _))
  obtain rfl : args = #[x, y] := by rw [← Array.toList_inj, hargs]
  simp [execOp, ho, hx, hy, resolve, invoke, builtin, Builtin.min_, Builtin.min2]

theorem sound_un {op : UnOp} {t : TypeId} {x : Operand} (ho : o.op = .unOp op t x) (h : opF T kb o s = some (p, s')) (hR : Rel O nt ρ I s a w) (hd : ∀ d, o.dst = some d → d < nt) : Does P O nt ρ I kb o s s' a w := by
  have hx := leval_sound hR x
  unfold opF at h
  simp only [ho] at h
  split at h
  · rename_i b hlx
    rw [hlx] at hx
    have hx := VR.atom hx
    simp only [Option.some.injEq, Prod.mk.injEq] at h
    obtain ⟨rfl, rfl⟩ := h
    refine Does.value hR hd (v := .bool !b) ?_ (.d (.v _))
    simp only [execOp, ho, hx, Op.unary, Sem.run_bind, Result.andThen_ok, Sem.run_pure]
  · rename_i k n hlx
    rw [hlx] at hx
    have hx := VR.atom hx
    simp only [Option.some.injEq, Prod.mk.injEq] at h
    obtain ⟨rfl, rfl⟩ := h
    refine Does.value hR hd (v := .int k (k.wrap (0 - n))) ?_ (.d (.v _))
    simp only [execOp, ho, hx, Op.unary, Op.intArith, Sem.run_bind, Result.andThen_ok, Sem.run_pure]
  · simp at h

theorem sound_convert (hT : TOk P T) {t t' : TypeId} {x : Operand} (ho : o.op = .convert t t' x) (h : opF T kb o s = some (p, s')) (hR : Rel O nt ρ I s a w) (hd : ∀ d, o.dst = some d → d < nt) : Does P O nt ρ I kb o s s' a w := by
  have hx := leval_sound hR x
  unfold opF at h
  simp only [ho] at h
  split at h
  · rename_i ti ti' ht ht'
    obtain ⟨i, d, z, hi, hu, hz, hsz, hby, hc, hl, hk⟩ := (hT t ti ht).ex
    obtain ⟨i', d', z', hi', hu', hz', hsz', hby', hc', hl', hk'⟩ := (hT t' ti' ht').ex
    split at h
    · rename_i k0 k k1 n h1 h2 hlx
      rw [hlx] at hx
      have hx := VR.atom hx
      rw [h1] at hk
      rw [h2] at hk'
      obtain rfl : d = .int k0 := hk
      obtain rfl : d' = .int k := hk'
      simp only [Option.some.injEq, Prod.mk.injEq] at h
      obtain ⟨rfl, rfl⟩ := h
      refine Does.value hR hd (v := .int k (k.wrap n)) ?_ (.d (.v _))
      simp only [execOp, ho, hx, convert, run_underlying hu, run_underlying hu', Conv.intToInt, Sem.run_bind, Result.andThen_ok, Sem.run_pure]
    · simp at h
  · simp at h

theorem sound_nil {x : Operand} (ho : o.op = .nilCheck x) (h : opF T kb o s = some (p, s')) (hR : Rel O nt ρ I s a w) (hd : ∀ d, o.dst = some d → d < nt) : Does P O nt ρ I kb o s s' a w := by
  have hx := leval_sound hR x
  unfold opF at h
  simp only [ho] at h
  have fin : ∀ v, a.eval x = v → ((∃ ad, v = .pointer (some ad)) ∨ ∃ f us, v = .func (.func f) #[] us) → s' = s.put o.dst (leval s x) → Does P O nt ρ I kb o s s' a w := by
    rintro v hv hf rfl
    refine Does.value hR hd (v := v) ?_ (hv ▸ hx)
    rcases hf with ⟨ad, rfl⟩ | ⟨f, us, rfl⟩ <;> simp only [execOp, ho, hv, Sem.run_pure]
  split at h <;> (try (simp at h; done)) <;> (rename_i hlx; simp only [Option.some.injEq, Prod.mk.injEq] at h; obtain ⟨rfl, rfl⟩ := h; rw [hlx] at hx fin; generalize hax : a.eval x = vx at hx fin; cases hx)
  · exact fin _ rfl (.inl ⟨_, rfl⟩) rfl
  · exact fin _ rfl (.inl ⟨_, rfl⟩) rfl
  · exact fin _ rfl (.inl ⟨_, rfl⟩) rfl
  · exact fin _ rfl (.inr ⟨_, _, rfl⟩) rfl

/-- a field of a type that is told -/
theorem field_at (hT : TOk P T) {t : TypeId} {ti : TI} (ht : T t = some ti) {fl : List (Nat × Nat × Bool)} (hk : ti.k = .agg fl) {j off size : Nat} {ag : Bool} (hj : fl[j]? = some (off, size, ag)) :
    ∃ fs f i d, P.underlying t = some (.struct fs) ∧ fs[j]? = some f ∧ f.offset = off ∧ P.info? f.type = some i ∧ i.size = size ∧ P.underlying f.type = some d ∧ aggD d = ag := by
  obtain ⟨i, d, z, hi, hu, hz, hsz, hby, hc, hl, hkk⟩ := (hT t ti ht).ex
  rw [hk] at hkk
  obtain ⟨fs, rfl, hzz, hfs⟩ := hkk
  have h1 := congrArg (fun l => l[j]?) hfs
  simp only [List.getElem?_map, hj, Option.map_some] at h1
  cases hf : fs.toList[j]? with
  | none => simp [hf] at h1
  | some f =>
    simp only [hf, Option.map_some, Option.some.injEq, Prod.mk.injEq, Option.map_eq_some_iff] at h1
    obtain ⟨h1, ⟨fi, h2, h3⟩, fd, h4, h5⟩ := h1
    exact ⟨fs, f, fi, fd, hu, by simpa using hf, h1, h2, h3, h4, h5⟩

theorem sound_fieldAddr (hT : TOk P T) {t : TypeId} {x : Operand} {j : Nat} (ho : o.op = .fieldAddr t x j) (h : opF T kb o s = some (p, s')) (hR : Rel O nt ρ I s a w) (hd : ∀ d, o.dst = some d → d < nt) : Does P O nt ρ I kb o s s' a w := by
  have hx := leval_sound hR x
  unfold opF at h
  simp only [ho] at h
  split at h <;> (try (simp at h; done))
  rename_i ti ht
  split at h <;> (try (simp at h; done))
  rename_i fl hk
  split at h <;> (try (simp at h; done))
  rename_i off size ag hj
  obtain ⟨fs, f, i, d, hu, hf, hof, hi, hsz, hu2, hag⟩ := field_at hT ht hk hj
  cases hb : Nat.beq size 0 with
  | true => rw [hb] at h; simp at h
  | false =>
    have hz : ¬ i.size = 0 := by rw [hsz]; intro e; subst e; simp at hb
    have run : ∀ ad, a.eval x = .pointer (some ad) → (execOp a.eval o).run P w = .ok (.value (.pointer (some (ad.add off)))) w := by
      intro ad hax
      simp only [execOp, ho, hax, Instr.fieldAt, run_underlying hu, hf, Instr.sureAddr, fieldPlace, run_sizeOf' hi, hz, if_false, hof, Sem.run_bind, Result.andThen_ok, Sem.run_pure]
    rw [hb, cond_false] at h
    generalize hax : a.eval x = vx at hx
    split at h
    · rename_i k o1 hlx
      simp only [Option.some.injEq, Prod.mk.injEq] at h
      obtain ⟨rfl, rfl⟩ := h
      rw [hlx] at hx
      cases hx with
      | ptr h1 =>
        refine Does.value hR hd (run _ hax) ?_
        rw [Addr.add_lit]
        exact .ptr h1
    · rename_i k sz i' o1 hlx
      simp only [Option.some.injEq, Prod.mk.injEq] at h
      obtain ⟨rfl, rfl⟩ := h
      rw [hlx] at hx
      cases hx with
      | eptr h1 =>
        refine Does.value hR hd (run _ hax) ?_
        rw [Addr.add_lit, Nat.add_assoc]
        exact .eptr h1
    · rename_i cs hlx
      obtain ⟨hle, h⟩ := bif_some h
      simp only [Option.some.injEq, Prod.mk.injEq] at h
      obtain ⟨rfl, rfl⟩ := h
      rw [hlx] at hx
      cases hx with
      | dptr vs hs hI hv hr =>
        rename_i ad
        refine Does.value hR hd (run _ hax) (.dptr (fun j => vs (off + j)) (add_spot _ hs _) (by rw [add_block]; exact hI) (fun j hj => ?_) (fun j hj => ?_))
        · rw [add_add _ hs]
          exact hv _ (by simp at hj; omega)
        · rw [getD_drop]
          exact hr _ (by simp at hj; omega)
    · simp at h

theorem run_part {t : TypeId} {i : TypeInfo} {d : TypeDesc} (hi : P.info? t = some i) (hu : P.underlying t = some d) (cs : Array Value) (off : Nat) :
    (part t cs off).run P w = if aggD d = true then .ok (.agg (cs.extract off (off + i.size))) w else (match cs[off]? with | some v => .ok v w | none => .halt (.stuck "part: no such cell") w) := by
  simp only [part, Sem.run_bind, run_isAgg hu, Result.andThen_ok]
  split
  · simp only [Sem.run_bind, run_sizeOf' hi, Result.andThen_ok, Sem.run_pure]
  · cases hc : cs[off]? with
    | none => rfl
    | some v => rfl

theorem sound_field (hT : TOk P T) {t : TypeId} {x : Operand} {j : Nat} (ho : o.op = .field t x j) (h : opF T kb o s = some (p, s')) (hR : Rel O nt ρ I s a w) (hd : ∀ d, o.dst = some d → d < nt) : Does P O nt ρ I kb o s s' a w := by
  have hx := leval_sound hR x
  unfold opF at h
  simp only [ho] at h
  split at h <;> (try (simp at h; done))
  rename_i ti ht
  split at h <;> (try (simp at h; done))
  rename_i fl hk
  split at h <;> (try (simp at h; done))
  rename_i off size ag hj
  obtain ⟨fs, f, i, d, hu, hf, hof, hi, hsz, hu2, hag⟩ := field_at hT ht hk hj
  split at h <;> (try (simp at h; done))
  rename_i cs hlx
  obtain ⟨hle, h1⟩ := bif_some h
  clear h
  rw [hlx] at hx
  generalize hax : a.eval x = vx at hx
  cases hx with
  | agg hl hc =>
    rename_i us
    have hle : off + size ≤ cs.length ∧ 1 ≤ size := by simpa [Bool.and_eq_true] using hle
    have run : ∀ r, (part f.type us f.offset).run P w = .ok r w → (execOp a.eval o).run P w = .ok (.value r) w := by
      intro r hr
      simp only [execOp, ho, hax, Instr.field, run_underlying hu, hf, asAgg, Sem.run_bind, Result.andThen_ok, Sem.run_pure, hr]
    have hpart := run_part (P := P) (w := w) hi hu2 us f.offset
    rw [hag, hof] at hpart
    rw [hof] at run
    cases ag with
    | true =>
      simp only [Option.some.injEq, Prod.mk.injEq] at h1
      obtain ⟨rfl, rfl⟩ := h1
      refine Does.value hR hd (run _ (by rw [hpart]; rfl)) (.agg ?_ (fun j hj => ?_))
      · simp; omega
      · have hj' : j < size := by simp at hj; omega
        have e1 : ((cs.drop off).take size).getD j .bad = cs.getD (off + j) .bad := by simp [List.getD, List.getElem?_take, hj', List.getElem?_drop]
        have e2 : (us.extract off (off + i.size)).getD j undef = us.getD (off + j) undef := by
          simp [Array.getD, hsz]
          have h3 : j < min (off + size) us.size - off := by omega
          have h4 : off + j < us.size := by omega
          simp [h3, h4]
        rw [e1, e2]
        exact hc _ (by omega)
    | false =>
      simp only at h1
      split at h1 <;> (try (simp at h1; done))
      rename_i r hr
      simp only [Option.some.injEq, Prod.mk.injEq] at h1
      obtain ⟨rfl, rfl⟩ := h1
      have hlt : off < us.size := by omega
      refine Does.value hR hd (run _ (by rw [hpart]; simp [hlt]; rfl)) ?_
      have := hc off (by omega)
      simpa [List.getD, hr, Array.getD, hlt] using this
end
end Go.Proofs.YtojaakpnpdnbhaaGreatDoor.L
