/- The operations of the symbolic logic are true of the machine's. -/
import Derived.Test.YtojaakpnpdnbhaaGreatDoorLb
set_option linter.unusedVariables false
set_option linter.unusedSimpArgs false
namespace Go.Proofs.YtojaakpnpdnbhaaGreatDoor.L
universe u
open Go.RowKit

theorem bif_some {α : Type u} {b : Bool} {e : Option α} {y : α} (h : (bif b then e else none) = some y) : b = true ∧ e = some y := by cases b <;> simp_all

/-- One step of memory: what may not be written stands. -/
structure Step (O : Nat → Prop) (w w' : World) : Prop where
  os : w'.os = w.os
  tape : w'.tape = w.tape
  output : w'.output = w.output
  size : w.heap.size ≤ w'.heap.size
  keep : ∀ b, ¬ O b → b < w.heap.size → w'.heap[b]? = w.heap[b]?
theorem Step.refl (O : Nat → Prop) (w : World) : Step O w w := ⟨rfl, rfl, rfl, Nat.le_refl _, fun _ _ _ => rfl⟩
theorem Step.trans {O : Nat → Prop} {a b c : World} (h : Step O a b) (k : Step O b c) : Step O a c :=
  ⟨k.os.trans h.os, k.tape.trans h.tape, k.output.trans h.output, Nat.le_trans h.size k.size, fun x hx hl => (k.keep x hx (Nat.lt_of_lt_of_le hl h.size)).trans (h.keep x hx hl)⟩
theorem Step.drew (O : Nat → Prop) (w : World) : Step O w { w with drawn := w.drawn + 1 } := ⟨rfl, rfl, rfl, Nat.le_refl _, fun _ _ _ => rfl⟩
theorem Step.alloc (O : Nat → Prop) (w : World) (o : Obj) : Step O w (w.alloc o) := ⟨rfl, rfl, rfl, by simp, fun b _ hb => Below.heap_alloc _ _ _ hb⟩

section
variable {P : Program} {T : TT} {O : Nat → Prop} {nt : Nat} {ρ : Nat → Option Value} {I : Nat → Prop} {s : LS} {a : Act} {w : World}

theorem leval_sound (h : Rel O nt ρ I s a w) (x : Operand) : VR ρ w I (leval s x) (a.eval x) := by
  cases x with
  | tmp t => exact h.fr t
  | const v => exact .d (.v v)
  | global g => exact .bad _
  | func f => exact .fn (us := #[]) rfl (fun j hj => absurd hj (by simp))

/-- What an operation does. -/
def Does (P : Program) (O : Nat → Prop) (nt : Nat) (ρ : Nat → Option Value) (I : Nat → Prop) (kb : Nat) (o : Oper) (s s' : LS) (a : Act) (w : World) : Prop :=
  s'.nx = s.nx ∧ s'.lo = s.lo ∧ ∃ nx v w' ρ' I', (execOp a.eval o).run P w = .ok nx w' ∧ (nx = .value v ∨ (nx = .skip ∧ v = undef)) ∧ Rel O nt ρ' I' s' (a.put o.dst v) w' ∧ Ext ρ ρ' ∧ (∀ k, k ≠ kb → ρ' k = ρ k) ∧ (∀ b, I b → I' b) ∧ (∀ b, I' b → I b ∨ O b) ∧ (∀ b, I b → w'.heap[b]? = w.heap[b]?) ∧ Step O w w'

theorem Does.value {kb : Nat} {o : Oper} (h : Rel O nt ρ I s a w) (hd : ∀ d, o.dst = some d → d < nt) {v : Value} {x : LV} (hr : (execOp a.eval o).run P w = .ok (.value v) w) (hx : VR ρ w I x v) :
    Does P O nt ρ I kb o s (s.put o.dst x) a w :=
  ⟨LS.put_nx _ _ _, LS.put_lo _ _ _, _, v, w, ρ, I, hr, .inl rfl, h.put hd hx, Ext.refl _, fun _ _ => rfl, fun _ hb => hb, fun _ hb => .inl hb, fun _ _ => rfl, Step.refl _ _⟩

theorem VR.data {x : D} {v : Value} (h : VR ρ w I (.d x) v) : Rd w I x v := by cases h; assumption
theorem VR.atom {x v : Value} (h : VR ρ w I (.d (.v x)) v) : v = x := by cases h with | d h => cases h; rfl

theorem okCell_one {x : LV} {v : Value} (h : VR ρ w I x v) (hx : okCell x = true) : v.oneCell' = true := by
  cases h with
  | bad v => simp [okCell] at hx
  | d h => cases h with
    | v x => cases v <;> simp_all [okCell, okVal, Value.oneCell']
    | nil f A c => rfl
    | l => rfl
  | row h hv => obtain ⟨A, n, c, rfl⟩ := hv; rfl
  | ptr h => rfl
  | eptr h => rfl
  | dptr => rfl
  | agg => simp [okCell] at hx
  | tup => simp [okCell] at hx
  | fn => rfl
  | mp => rfl
  | sub => rfl
  | sub0 => rfl
  | pptr => rfl

/-- a value's cells, one by one -/
theorem cellsLV_sound {x : LV} {v : Value} {cs : List LV} (h : VR ρ w I x v) (hc : cellsLV x = some cs) :
    v.cells.size = cs.length ∧ (∀ j, j < cs.length → VR ρ w I (cs.getD j .bad) (v.cells.getD j undef)) ∧ ∀ u ∈ v.cells.toList, u.oneCell' = true := by
  have single : okCell x = true → cs = [x] → v.cells.size = cs.length ∧ (∀ j, j < cs.length → VR ρ w I (cs.getD j .bad) (v.cells.getD j undef)) ∧ ∀ u ∈ v.cells.toList, u.oneCell' = true := by
    intro hx e
    subst e
    have h1 := okCell_one h hx
    have hv : v.cells = #[v] := by cases v <;> simp_all [Value.cells, Value.oneCell']
    rw [hv]
    refine ⟨rfl, fun j hj => ?_, by simpa using h1⟩
    obtain rfl : j = 0 := by simp at hj; omega
    exact h
  cases x with
  | agg xs =>
    simp only [cellsLV] at hc
    cases hall : xs.all okCell with
    | false => simp [hall] at hc
    | true =>
      simp only [hall, cond_true, Option.some.injEq] at hc
      subst hc
      cases h with
      | agg hl h =>
        refine ⟨hl, h, fun u hu => ?_⟩
        obtain ⟨j, hj, rfl⟩ := List.getElem_of_mem hu
        have hj' : j < xs.length := by rw [← hl]; simpa [Value.cells] using hj
        have h2 := okCell_one (h j hj') (by
          have := List.all_eq_true.1 hall (xs.getD j .bad) (by simp [List.getD, List.getElem?_eq_getElem hj'])
          exact this)
        simp only [Value.cells, Array.length_toList] at hj
        simpa [Value.cells, Array.getD, hj] using h2
  | _ =>
    simp only [cellsLV] at hc
    obtain ⟨hx, e⟩ := bif_some hc
    exact single hx (Option.some.inj e).symm

theorem run_equal_bool {t : TypeId} (hu : P.underlying t = some .bool) (a b : Bool) : (Op.equal t (.bool a) (.bool b)).run P w = .ok (a == b) w := by
  unfold Op.equal
  rw [show Op.maxDepth = 9999 + 1 from rfl]
  unfold Op.equalIn
  simp only [Sem.run_bind, run_underlying hu, Result.andThen_ok, Sem.run_pure]

/-- what a binary operation on atoms tells -/
theorem bin2_sound {tk : TK} {op : BinOp} {x y r : Value} {p : Prop} {t : TypeId} {d : TypeDesc} (hu : P.underlying t = some d) (hk : tk = .bool → d = .bool) (h : bin2 tk op x y = some (p, r)) (hp : p) (X Y : Operand) :
    (do eqGuard op t X Y x y; binOp op t x y : Sem Value).run P w = .ok r w := by
  unfold bin2 at h
  split at h
  · rename_i k a k' b
    have hg : eqGuard op t X Y (.int k a) (.int k' b) = pure () := by cases op <;> rfl
    simp only [hg, Sem.run_bind, Sem.run_pure, Result.andThen_ok]
    split at h
    · simp only [Option.some.injEq, Prod.mk.injEq] at h
      obtain ⟨rfl, rfl⟩ := h
      simp only [binOp, Op.shift, if_neg (show ¬ b < 0 by omega)]
      rfl
    · simp only [Option.some.injEq, Prod.mk.injEq] at h
      obtain ⟨rfl, rfl⟩ := h
      simp only [binOp, Op.shift, if_neg (show ¬ b < 0 by omega)]
      rfl
    · rename_i h1 h2
      split at h
      · rename_i hkk
        subst hkk
        cases op <;> simp only [Option.some.injEq, Prod.mk.injEq, reduceCtorEq] at h <;> first
          | (exact absurd rfl h1)
          | (exact absurd rfl h2)
          | (obtain ⟨rfl, rfl⟩ := h; simp only [binOp, ne_eq, not_true_eq_false, if_false, Op.intArith, Op.intCmp, Op.intBits, Op.intDiv]; first | rfl | (rw [if_neg hp]; rfl))
      · simp at h
  · rename_i a b
    have hg : eqGuard op t X Y (.string a) (.string b) = pure () := by cases op <;> rfl
    simp only [hg, Sem.run_bind, Sem.run_pure, Result.andThen_ok]
    split at h
    · simp only [Option.some.injEq, Prod.mk.injEq] at h
      obtain ⟨rfl, rfl⟩ := h
      simp only [binOp, Op.stringOp, IntKind.max_i64]
      rw [if_neg (by omega)]
      rfl
    · simp only [Option.some.injEq, Prod.mk.injEq] at h
      obtain ⟨rfl, rfl⟩ := h
      rfl
    · simp only [Option.some.injEq, Prod.mk.injEq] at h
      obtain ⟨rfl, rfl⟩ := h
      rfl
    · simp at h
  · rename_i a b
    have hg : eqGuard op t X Y (.bool a) (.bool b) = pure () := by cases op <;> rfl
    simp only [hg, Sem.run_bind, Sem.run_pure, Result.andThen_ok]
    split at h
    · obtain rfl := hk rfl
      split at h
      · simp only [Option.some.injEq, Prod.mk.injEq] at h
        obtain ⟨rfl, rfl⟩ := h
        simp only [binOp, Sem.run_bind, run_equal_bool hu, Result.andThen_ok, Sem.run_pure]
      · simp only [Option.some.injEq, Prod.mk.injEq] at h
        obtain ⟨rfl, rfl⟩ := h
        simp only [binOp, Sem.run_bind, run_equal_bool hu, Result.andThen_ok, Sem.run_pure]
      · simp at h
    · simp at h
  · simp at h

theorem run_isAgg {t : TypeId} {d : TypeDesc} (hu : P.underlying t = some d) : (isAgg t).run P w = .ok (aggD d) w := by
  unfold isAgg
  simp only [Sem.run_bind, run_underlying hu, Result.andThen_ok]
  cases d <;> rfl
theorem run_sizeOf' {t : TypeId} {i : TypeInfo} (hi : P.info? t = some i) : (sizeOf t).run P w = .ok i.size w := by
  simp [sizeOf, typeInfo, hi]
theorem run_zero {t : TypeId} {i : TypeInfo} {z : Value} (hi : P.info? t = some i) (hz : i.zero = some z) : (zeroValue t).run P w = .ok z w := by
  simp [zeroValue, typeInfo, hi, hz]

theorem TKok.notAgg {d : TypeDesc} {z : Value} {ti : TI} (h : TKok P d z ti ti.k) (hn : ∀ fl, ti.k ≠ .agg fl) : aggD d = false := by
  cases hk : ti.k with
  | agg fl => exact absurd hk (hn fl)
  | slice e => rw [hk] at h; subst h; rfl
  | int k => rw [hk] at h; subst h; rfl
  | bool => rw [hk] at h; subst h; rfl
  | str => rw [hk] at h; subst h; rfl
  | other => rw [hk] at h; exact h

theorem load_sound (hT : TOk P T) {t : TypeId} {ti : TI} (ht : T t = some ti) {ad : Addr} {cs : List LV} {vs : Nat → Value} (hv : ∀ j, j < cs.length → w.cell? (ad.add j) = some (vs j))
    (hr : ∀ j, j < cs.length → VR ρ w I (cs.getD j .bad) (vs j)) {r : LV} (h : loadLV ti cs = some r) : ∃ v, (loadVar t ad).run P w = .ok v w ∧ VR ρ w I r v := by
  obtain ⟨i, d, z, hi, hu, hz, hsz, hby, hc, hl, hk⟩ := (hT t ti ht).ex
  cases hkk : ti.k with
  | agg fl =>
    rw [hkk] at hk
    obtain ⟨fs, rfl, hzz, hfs⟩ := hk
    simp only [loadLV, hkk] at h
    obtain ⟨hle, e⟩ := bif_some h
    obtain rfl := Option.some.inj e
    have hle : ti.size ≤ cs.length := by simpa using hle
    refine ⟨.agg ((List.range ti.size).map vs).toArray, ?_, ?_⟩
    · have hlc := run_loadCells (P := P) w ad ti.size vs (fun j hj => hv j (by omega))
      simp only [loadVar, Sem.run_bind, run_isAgg hu, Result.andThen_ok, aggD, if_true, run_sizeOf' hi, hsz, hlc, Sem.run_pure]
    · refine .agg (by simp; omega) (fun j hj => ?_)
      have hj' : j < ti.size := by simp at hj; omega
      have e1 : (cs.take ti.size).getD j .bad = cs.getD j .bad := by simp [List.getD, List.getElem?_take, hj']
      have e2 : ((List.range ti.size).map vs).toArray.getD j undef = vs j := by simp [Array.getD, hj']
      rw [e1, e2]
      exact hr j (by omega)
  | _ =>
    have hn := TKok.notAgg hk (by rw [hkk]; simp)
    simp only [loadLV, hkk] at h
    cases cs with
    | nil => simp at h
    | cons x xs =>
      obtain rfl : x = r := by simpa using h
      refine ⟨vs 0, ?_, hr 0 (by simp)⟩
      have h0 := hv 0 (by simp)
      simp only [Addr.add_zero'] at h0
      simp only [loadVar, Sem.run_bind, run_isAgg hu, Result.andThen_ok, hn, Bool.false_eq_true, if_false, run_load, h0]

theorem getD_drop {α : Type} (l : List α) (n j : Nat) (x : α) : (l.drop n).getD j x = l.getD (n + j) x := by simp [List.getD, List.getElem?_drop]

/-- the cells of a box -/
theorem box_cells {k : Nat} {t : TypeId} {cs : List LV} (h : ER ρ w I k (.box t cs)) {off : Nat} {v : Value} (hv : VR ρ w I (.ptr k off) v) :
    ∃ g us, v = .pointer (some ⟨g, off, none⟩) ∧ ρ k = some (.pointer (some ⟨g, 0, none⟩)) ∧ w.heap[g]? = some (.cells us t (0, 0)) ∧ us.size = cs.length ∧ (∀ j, j < cs.length → VR ρ w I (cs.getD j .bad) (us.getD j undef)) ∧
      ∀ j, j < (cs.drop off).length → w.cell? ((⟨g, off, none⟩ : Addr).add j) = some (us.getD (off + j) undef) := by
  obtain ⟨g, us, h1, h2, h3, h4⟩ := h
  cases hv with
  | ptr hp =>
    rename_i g'
    obtain rfl : g = g' := by rw [h1] at hp; simpa using hp
    refine ⟨g, us, rfl, h1, h2, h3, h4, fun j hj => ?_⟩
    have hj' : off + j < us.size := by simp at hj; omega
    simp [Addr.add_lit, World.cell?, h2, Array.getD, hj']

/-- the cells of an own row -/
theorem row_cells {k : Nat} {e : TypeId} {sz n : Nat} {f : Nat → List D} (h : ER ρ w I k (.row e sz n f)) {i off : Nat} {v : Value} (hi : i < n) (hv : VR ρ w I (.eptr k sz i off) v) :
    ∃ g c xs, v = .pointer (some ⟨g, i * sz + off, none⟩) ∧ ρ k = some (.slice (some ⟨g, 0, none⟩) n c) ∧ w.ownsRow 0 e sz (.slice (some ⟨g, 0, none⟩) n c) n xs ∧ (f i).length = sz ∧
      (∀ j, j < sz → Rd w I ((f i).getD j (.v undef)) (xs.getD (i * sz + j) undef)) ∧ ∀ j, off + j < sz → w.cell? ((⟨g, i * sz + off, none⟩ : Addr).add j) = some (xs.getD (i * sz + (off + j)) undef) := by
  obtain ⟨h0, u, xs, h1, h2, h5, h3, h4⟩ := h
  cases hv with
  | eptr hp =>
    rename_i g n' c
    obtain rfl := Option.some.inj (h1.symm.trans hp)
    have hnn : n' = n := by
      rcases h2.2 with ⟨h', _⟩ | ⟨g', cap, cur, h', _⟩
      · simp at h'
      · simp at h'; exact h'.2.1
    subst hnn
    refine ⟨g, c, xs, rfl, h1, h2, h3 i hi, fun j hj => h4 i j hi hj, fun j hj => ?_⟩
    have hlt : i * sz + (off + j) < n' * sz := by
      have : (i + 1) * sz ≤ n' * sz := Nat.mul_le_mul_right _ hi
      rw [Nat.add_mul, Nat.one_mul] at this
      omega
    have hx : i * sz + (off + j) < xs.length := by rw [h2.1]; exact hlt
    have := h2.cells (g := g) rfl (i * sz + (off + j)) (xs.getD (i * sz + (off + j)) undef) (by simp [List.getD, List.getElem?_eq_getElem hx])
    simpa [Addr.add_lit, Nat.add_assoc] using this

theorem getD_mapd (l : List D) (j : Nat) (hj : j < l.length) : (l.map LV.d).getD j .bad = .d (l.getD j (.v undef)) := by
  simp [List.getD, List.getElem?_eq_getElem hj]

theorem sound_load (hT : TOk P T) {kb : Nat} {o : Oper} {t : TypeId} {x : Operand} (ho : o.op = .load t x) {p : Prop} {s' : LS} (h : opF T kb o s = some (p, s')) (hp : p) (hR : Rel O nt ρ I s a w) (hd : ∀ d, o.dst = some d → d < nt) :
    Does P O nt ρ I kb o s s' a w := by
  have hx := leval_sound hR x
  unfold opF at h
  simp only [ho] at h
  cases ht : T t with
  | none => simp [ht] at h
  | some ti =>
    simp only [ht] at h
    generalize hlx : leval s x = lx at h hx
    have fin : ∀ (ad : Addr) (r : LV), a.eval x = .pointer (some ad) → (∃ v, (loadVar t ad).run P w = .ok v w ∧ VR ρ w I r v) → Does P O nt ρ I kb o s (s.put o.dst r) a w := by
      rintro ad r hax ⟨v, hrun, hvr⟩
      refine Does.value hR hd (v := v) ?_ hvr
      simp only [execOp, ho, Instr.loadAt, Instr.sureAddr, hax, Sem.run_bind, Sem.run_pure, Result.andThen_ok, hrun]
    cases lx with
    | ptr k off =>
      simp only at h
      cases hk : s.hp k with
      | none => simp [hk] at h
      | some e =>
        cases e with
        | row => simp [hk] at h
        | map => simp [hk] at h
        | nest => simp [hk] at h
        | box bt cs =>
          simp only [hk] at h
          cases hl : loadLV ti (cs.drop off) with
          | none => simp [hl] at h
          | some r =>
            simp only [hl, Option.some.injEq, Prod.mk.injEq] at h
            obtain ⟨rfl, rfl⟩ := h
            obtain ⟨g, us, hax, _, _, h3, h4, h5⟩ := box_cells (hR.hp k _ hk) hx
            refine fin _ _ hax (load_sound hT ht h5 (fun j hj => ?_) hl)
            rw [getD_drop]
            exact h4 _ (by simp at hj; omega)
    | dptr cs =>
      simp only at h
      cases hl : loadLV ti (cs.map .d) with
      | none => simp [hl] at h
      | some r =>
        simp only [hl, Option.some.injEq, Prod.mk.injEq] at h
        obtain ⟨rfl, rfl⟩ := h
        generalize hax : a.eval x = vx at hx
        cases hx with
        | dptr vs hs hI hv hr =>
          refine fin _ _ hax (load_sound hT ht (vs := vs) (fun j hj => hv j (by simpa using hj)) (fun j hj => ?_) hl)
          rw [getD_mapd _ _ (by simpa using hj)]
          exact .d (hr j (by simpa using hj))
    | eptr k sz i off =>
      simp only at h
      cases hk : s.hp k with
      | none => simp [hk] at h
      | some e =>
        cases e with
        | box => simp [hk] at h
        | map => simp [hk] at h
        | nest => simp [hk] at h
        | row e sz' n f =>
          simp only [hk] at h
          obtain ⟨hsz, h1⟩ := bif_some h
          clear h
          obtain rfl : sz = sz' := by simpa using hsz
          cases hl : loadLV ti (((f i).drop off).map .d) with
          | none => simp only [hl, reduceCtorEq] at h1
          | some r =>
            simp only [hl, Option.some.injEq, Prod.mk.injEq] at h1
            obtain ⟨rfl, rfl⟩ := h1
            obtain ⟨g, c, xs, hax, _, _, hfl, hrd, hce⟩ := row_cells (hR.hp k _ hk) hp hx
            refine fin _ _ hax (load_sound hT ht (vs := fun j => xs.getD (i * sz + (off + j)) undef) (fun j hj => hce j ?_) (fun j hj => ?_) hl)
            · simp at hj; omega
            · have hj' : off + j < sz := by simp at hj; omega
              rw [getD_mapd _ _ (by simpa using hj), getD_drop]
              exact .d (hrd _ hj')
    | _ => simp at h
end
end Go.Proofs.YtojaakpnpdnbhaaGreatDoor.L
