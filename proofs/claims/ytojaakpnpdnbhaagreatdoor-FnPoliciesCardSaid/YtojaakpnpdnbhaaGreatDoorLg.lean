/- The operations of the symbolic logic are true of the machine's: structs and slices that are built. -/
import Derived.Test.YtojaakpnpdnbhaaGreatDoorLf
set_option linter.unusedVariables false
set_option linter.unusedSimpArgs false
namespace Go.Proofs.YtojaakpnpdnbhaaGreatDoor.L
open Go.RowKit
section
variable {P : Program} {T : TT} {O : Nat → Prop} {nt : Nat} {ρ : Nat → Option Value} {I : Nat → Prop} {s : LS} {a : Act} {w : World} {kb : Nat} {o : Oper} {p : Prop} {s' : LS}

theorem splice_set {α : Type} (l : List α) (q : Nat) (v : α) (vs : List α) (h : q + 1 + vs.length ≤ l.length) : splice (l.set q v) (q + 1) vs = splice l q (v :: vs) := by
  apply List.ext_getElem?
  intro j
  simp only [splice_eq, List.getElem?_append, List.length_take, List.length_set, List.length_append, List.length_cons, List.getElem?_take, List.getElem?_drop, List.getElem?_set, List.getElem?_cons]
  have m1 : min (q + 1) l.length = q + 1 := by omega
  have m2 : min q l.length = q := by omega
  rw [m1, m2]
  by_cases h1 : j < q
  · rw [if_pos (show j < q + 1 by omega), if_pos (show j < q + 1 by omega), if_neg (show ¬ q = j by omega), if_pos h1, if_pos h1]
  · by_cases h2 : j = q
    · subst h2
      simp
      omega
    · rw [if_neg (show ¬ j < q + 1 by omega), if_neg h1]
      by_cases h3 : j - (q + 1) < vs.length
      · rw [if_pos h3, if_pos (by omega), if_neg (by omega)]
        congr 1
        skip
      · rw [if_neg h3, if_neg (by omega), if_neg (by omega)]
        congr 1
        try omega

theorem fold_splice : ∀ (vs : List Value) (off st : Nat) (cells : Array Value), off + st + vs.length ≤ cells.size → ((vs.zipIdx st).foldl (fun (cs : Array Value) (x : Value × Nat) => cs.setIfInBounds (off + x.2) x.1) cells).toList = splice cells.toList (off + st) vs
  | [], off, st, cells, _ => by simp [splice_eq]
  | v :: vs, off, st, cells, h => by
    simp only [List.zipIdx_cons, List.foldl_cons]
    rw [fold_splice vs off (st + 1) _ (by simp at h ⊢; omega)]
    simp only [Array.toList_setIfInBounds]
    rw [← Nat.add_assoc]
    exact splice_set _ _ _ _ (by simp at h ⊢; omega)

theorem fold_splice' (vs : Array Value) (off : Nat) (cells : Array Value) (h : off + vs.size ≤ cells.size) : (vs.zipIdx.foldl (fun (cs : Array Value) (x : Value × Nat) => cs.setIfInBounds (off + x.2) x.1) cells).toList = splice cells.toList off vs.toList := by
  have := fold_splice vs.toList off 0 cells (by simpa using h)
  rw [← Array.foldl_toList, Array.toList_zipIdx]
  simpa using this

/-- cells that are told -/
def Cells (ρ : Nat → Option Value) (w : World) (I : Nat → Prop) (cs : List LV) (us : List Value) : Prop := us.length = cs.length ∧ ∀ j, j < cs.length → VR ρ w I (cs.getD j .bad) (us.getD j undef)

theorem Cells.splice {cs new : List LV} {us nu : List Value} (h : Cells ρ w I cs us) (h' : Cells ρ w I new nu) {off : Nat} (hf : off + new.length ≤ cs.length) : Cells ρ w I (splice cs off new) (splice us off nu) := by
  obtain ⟨l1, h1⟩ := h
  obtain ⟨l2, h2⟩ := h'
  refine ⟨by rw [length_splice _ _ _ hf, length_splice _ _ _ (by omega), l1], fun j hj => ?_⟩
  rw [length_splice _ _ _ hf] at hj
  rw [getD_splice _ _ _ _ _ hf, getD_splice _ _ _ _ _ (by omega), l2]
  split
  · exact h2 _ (by omega)
  · exact h1 _ hj

theorem Cells.ofArr {cs : List LV} {us : Array Value} (hl : us.size = cs.length) (h : ∀ j, j < cs.length → VR ρ w I (cs.getD j .bad) (us.getD j undef)) : Cells ρ w I cs us.toList :=
  ⟨by simpa using hl, fun j hj => by
    have := h j hj
    have h6 : j < us.size := by omega
    simpa [Array.getD, List.getD, h6] using this⟩
theorem Cells.arr {cs : List LV} {us : Array Value} (h : Cells ρ w I cs us.toList) : us.size = cs.length ∧ ∀ j, j < cs.length → VR ρ w I (cs.getD j .bad) (us.getD j undef) :=
  ⟨by simpa using h.1, fun j hj => by
    have := h.2 j hj
    have h6 : j < us.size := by have := h.1; simp at this; omega
    simpa [Array.getD, List.getD, h6] using this⟩

theorem fill_sound (hR : Rel O nt ρ I s a w) {fl : List (Nat × Nat × Bool)} {place : Nat → Option (Nat × Nat)} (hp : ∀ (i off size : Nat) (ag : Bool), fl[i]? = some (off, size, ag) → place i = some (off, size)) :
    ∀ (parts : List (Nat × Operand)) (cs : List LV) (us : Array Value) (r : List LV), Cells ρ w I cs us.toList → fillF fl s cs parts = some r →
      ∃ us', Instr.fill place us (parts.map fun x => (x.1, a.eval x.2)) = some us' ∧ Cells ρ w I r us'.toList
  | [], cs, us, r, hc, h => by
    obtain rfl : cs = r := by simpa [fillF] using h
    exact ⟨us, rfl, hc⟩
  | (i, x) :: rest, cs, us, r, hc, h => by
    simp only [fillF] at h
    split at h <;> (try (simp at h; done))
    rename_i off size ag hi
    split at h <;> (try (simp at h; done))
    rename_i new hnew
    obtain ⟨hle, h1⟩ := bif_some h
    rw [Bool.and_eq_true] at hle
    have e1 : new.length = size := by simpa using hle.1
    have e2 : off + size ≤ cs.length := by simpa using hle.2
    obtain ⟨c1, c2, c3⟩ := cellsLV_sound (leval_sound hR x) hnew
    have hnc := Cells.ofArr c1 c2
    have hul := hc.1
    simp only [Array.length_toList] at hul
    have hfs := fold_splice' (a.eval x).cells off us (by omega)
    obtain ⟨us', h3, h4⟩ := fill_sound hR hp rest (splice cs off new) _ r (by rw [hfs]; exact hc.splice hnc (by omega)) h1
    refine ⟨us', ?_, h4⟩
    simp only [List.map_cons, Instr.fill, hp _ _ _ _ hi]
    rw [if_neg (by simp; omega)]
    exact h3

theorem mapM_sizes (fs : List Field) (h : ∀ f ∈ fs, ∃ i, P.info? f.type = some i) : fs.mapM (fun f => (P.info? f.type).map fun i => (f.offset, i.size)) = some (fs.map fun f => (f.offset, ((P.info? f.type).map (·.size)).getD 0)) := by
  induction fs with
  | nil => simp
  | cons f fs ih =>
    obtain ⟨i, hi⟩ := h f (by simp)
    have := ih (fun g hg => h g (by simp [hg]))
    simp [List.mapM_cons, hi, this]

theorem sound_build (hT : TOk P T) {t : TypeId} {parts : Array (Nat × Operand)} (ho : o.op = .build t parts) (h : opF T kb o s = some (p, s')) (hR : Rel O nt ρ I s a w) (hd : ∀ d, o.dst = some d → d < nt) : Does P O nt ρ I kb o s s' a w := by
  unfold opF at h
  simp only [ho] at h
  split at h <;> (try (simp at h; done))
  rename_i ti ht
  obtain ⟨i, d, z, hi, hu, hz, hsz, hby, hc, hl, hk⟩ := (hT t ti ht).ex
  split at h <;> (try (simp at h; done))
  rename_i fl hkk
  split at h <;> (try (simp at h; done))
  rename_i cs hcs
  simp only [Option.some.injEq, Prod.mk.injEq] at h
  obtain ⟨rfl, rfl⟩ := h
  rw [hkk] at hk
  obtain ⟨fs, rfl, hzz, hfs⟩ := hk
  have hall : ∀ f ∈ fs.toList, ∃ i, P.info? f.type = some i := by
    intro f hf
    obtain ⟨j, hj, rfl⟩ := List.getElem_of_mem hf
    have h1 := congrArg (fun l => l[j]?) hfs
    simp only [List.getElem?_map, List.getElem?_eq_getElem hj, Option.map_some] at h1
    cases hfl : fl[j]? with
    | none => simp [hfl] at h1
    | some x =>
      simp only [hfl, Option.map_some, Option.some.injEq, Prod.mk.injEq, Option.map_eq_some_iff] at h1
      exact ⟨_, h1.2.1.choose_spec.1⟩
  have hmap := mapM_sizes (P := P) fs.toList hall
  have hpl : ∀ (j off size : Nat) (ag : Bool), fl[j]? = some (off, size, ag) → (fs.toList.map fun f => (f.offset, ((P.info? f.type).map (·.size)).getD 0)).toArray[j]? = some (off, size) := by
    intro j off size ag hj
    obtain ⟨fs', f, fi, fd, hu', hf, hof, hfi, hsz', hu2, hag⟩ := field_at hT ht hkk hj
    rw [hu] at hu'
    obtain rfl : fs = fs' := by simpa using hu'
    simp [hf, hof, hfi, hsz']
  have hzc : Cells ρ w I (ti.zero.map fun x => .d (.v x)) z.cells.toList := by
    rw [hc]
    refine ⟨by simp, fun j hj => ?_⟩
    have hj : j < ti.zero.length := by simpa using hj
    rw [getD_mapv _ _ hj]
    exact .d (.v _)
  obtain ⟨us', h3, h4⟩ := fill_sound hR hpl parts.toList _ z.cells cs hzc hcs
  refine Does.value hR hd (v := .agg us') ?_ (.agg h4.arr.1 h4.arr.2)
  have hb : P.built t (parts.toList.map fun x => (x.1, a.eval x.2)) = some us' := by
    unfold Program.built
    simp only [hi, hu, hz, hmap]
    exact h3
  have hrun := run_build (P := P) w t (parts.map fun x => (x.1, a.eval x.2)) us' (by simpa using hb)
  simp only [execOp, ho, hrun, Sem.run_bind, Sem.run_pure, Result.andThen_ok]

/-- the elements of a literal, put into memory -/
theorem lit_sound (hR : Rel O nt ρ I s a w) {size : Nat} (h0 : 0 < size) : ∀ (parts : List (Nat × Operand)) (j : Nat) (ls : List (List D)) (us : Array Value), litF s size j parts = some ls → (j + ls.length) * size ≤ us.size →
    ∃ us', Instr.fill (fun i => some (i * size, size)) us (parts.map fun x => (x.1, a.eval x.2)) = some us' ∧ us'.size = us.size ∧ (∀ q, q < j * size → us'.getD q undef = us.getD q undef) ∧
      (∀ i, i < ls.length → (ls.getD i []).length = size) ∧ ∀ i q, i < ls.length → q < size → Rd w I ((ls.getD i []).getD q (.v undef)) (us'.getD ((j + i) * size + q) undef) ∧ (us'.getD ((j + i) * size + q) undef).oneCell' = true
  | [], j, ls, us, h, hf => by
    obtain rfl : [] = ls := by simpa [litF] using h
    exact ⟨us, rfl, rfl, fun _ _ => rfl, fun i hi => absurd hi (by simp), fun i q hi => absurd hi (by simp)⟩
  | (i, x) :: rest, j, ls, us, h, hf => by
    simp only [litF] at h
    obtain ⟨hij, h1⟩ := bif_some h
    clear h
    obtain rfl : i = j := by simpa using hij
    split at h1 <;> (try (simp at h1; done))
    rename_i new hnew
    split at h1 <;> (try (simp at h1; done))
    rename_i ds hds
    obtain ⟨hdl, h2⟩ := bif_some h1
    clear h1
    have hdl : ds.length = size := by simpa using hdl
    split at h2 <;> (try (simp at h2; done))
    rename_i l hl
    obtain rfl := Option.some.inj h2
    obtain ⟨c1, c2, c3⟩ := cellsLV_sound (leval_sound hR x) hnew
    obtain ⟨m1, m2⟩ := mapO_data hds
    have hexp : (i + (ds :: l).length) * size = i * size + size + l.length * size := by simp only [List.length_cons, Nat.add_mul, Nat.one_mul]; omega
    rw [hexp] at hf
    have hfit : i * size + (a.eval x).cells.size ≤ us.size := by omega
    have hfs := fold_splice' (a.eval x).cells (i * size) us hfit
    generalize hus1 : ((a.eval x).cells.zipIdx.foldl (fun (cs : Array Value) (x : Value × Nat) => cs.setIfInBounds (i * size + x.2) x.1) us) = us1 at hfs
    have hs1 : us1.size = us.size := by
      have := congrArg List.length hfs
      rw [length_splice _ _ _ (by simpa using hfit)] at this
      simpa using this
    obtain ⟨us', k1, k2, k3, k4, k5⟩ := lit_sound hR h0 rest (i + 1) l us1 hl (by rw [hs1, Nat.add_mul, Nat.add_mul, Nat.one_mul]; omega)
    have g1 : ∀ q, q < us.size → us1.getD q undef = if i * size ≤ q ∧ q < i * size + size then (a.eval x).cells.toList.getD (q - i * size) undef else us.getD q undef := by
      intro q hq
      have e1 : us1.getD q undef = us1.toList.getD q undef := by simp [Array.getD, List.getD, hs1, hq]
      have e2 : us.getD q undef = us.toList.getD q undef := by simp [Array.getD, List.getD, hq]
      rw [e1, hfs, getD_splice _ _ _ _ _ (by simpa using hfit), e2]
      have : (a.eval x).cells.toList.length = size := by simp; omega
      rw [this]
    have hmul : (i + 1) * size = i * size + size := by rw [Nat.add_mul, Nat.one_mul]
    refine ⟨us', ?_, by rw [k2, hs1], fun q hq => ?_, fun i' hi' => ?_, fun i' q hi' hq => ?_⟩
    · simp only [List.map_cons, Instr.fill]
      rw [if_neg (by simp; omega), hus1]
      exact k1
    · rw [k3 q (by omega), g1 q (by omega), if_neg (by omega)]
    · cases i' with
      | zero => simpa using hdl
      | succ i' => simpa using k4 i' (by simpa using hi')
    · cases i' with
      | zero =>
        rw [Nat.add_zero]
        have hx1 := k3 (i * size + q) (by omega)
        rw [hx1, g1 _ (by omega), if_pos (by omega), show i * size + q - i * size = q by omega]
        have hq2 : q < (a.eval x).cells.size := by omega
        have e1 : (a.eval x).cells.toList.getD q undef = (a.eval x).cells.getD q undef := by simp [Array.getD, List.getD, hq2]
        refine ⟨?_, c3 _ (by rw [e1]; simp [Array.getD, hq2])⟩
        have h7 := c2 q (by omega)
        rw [m2 q (by omega)] at h7
        rw [e1]
        simpa using VR.data h7
      | succ i' =>
        have := k5 i' q (by simpa using hi') hq
        rw [show i + (i' + 1) = i + 1 + i' by omega]
        simpa using this

theorem sound_buildSlice (hT : TOk P T) {t : TypeId} {len : Nat} {parts : Array (Nat × Operand)} (ho : o.op = .buildSlice t len parts) (h : opF T kb o s = some (p, s')) (hR : Rel O nt ρ I s a w) (hd : ∀ d, o.dst = some d → d < nt) (hkb : ρ kb = none) (hO : ∀ g, w.heap.size ≤ g → O g) : Does P O nt ρ I kb o s s' a w := by
  unfold opF at h
  simp only [ho] at h
  split at h <;> (try (simp at h; done))
  rename_i ti ht
  split at h <;> (try (simp at h; done))
  rename_i e hk
  have hu := slice_at hT ht hk
  split at h <;> (try (simp at h; done))
  rename_i te hte
  obtain ⟨i2, d2, z2, hi2, hu2, hz2, hsz2, hby2, hc2, hl2, hk2⟩ := (hT e te hte).ex
  split at h <;> (try (simp at h; done))
  rename_i ls hls
  obtain ⟨hc, h1⟩ := bif_some h
  clear h
  simp only [Option.some.injEq, Prod.mk.injEq] at h1
  obtain ⟨rfl, rfl⟩ := h1
  simp only [Bool.and_eq_true] at hc
  have hlen : ls.length = len := by simpa using hc.1.1
  have h1s : 1 ≤ te.size := by simpa using hc.1.2
  have hsm : len * te.size ≤ 16777216 := by simpa using hc.2
  subst hlen
  generalize hini : ((Array.range (ls.length * te.size)).map (z2.cells[· % z2.cells.size]!)) = us0
  have hus0 : us0.size = ls.length * te.size := by rw [← hini]; simp
  have hini2 : (do if ls.length * te.size = 0 then pure #[] else do pure (← zeroValue e).cells : Sem (Array Value)).run P w = .ok (if ls.length * te.size = 0 then #[] else z2.cells) w := by
    split <;> simp only [Sem.run_bind, run_zero hi2 hz2, Result.andThen_ok, Sem.run_pure]
  have hini3 : ((Array.range (ls.length * te.size)).map ((if ls.length * te.size = 0 then #[] else z2.cells)[· % (if ls.length * te.size = 0 then (#[] : Array Value) else z2.cells).size]!)) = us0 := by
    rw [← hini]
    split
    · rename_i h0; rw [h0]; simp
    · rfl
  obtain ⟨us', k1, k2, k3, k4, k5⟩ := lit_sound hR h1s parts.toList 0 ls us0 hls (by rw [Nat.zero_add, hus0]; exact Nat.le_refl _)
  have hmaxb : ls.length ≤ maxLen := by
    have : ls.length * 1 ≤ ls.length * te.size := Nat.mul_le_mul_left _ h1s
    simp only [maxLen]; omega
  have hus' : us'.size = ls.length * te.size := by rw [k2, hus0]
  have hrow : (w.alloc (.cells us' e)).ownsRow 0 e te.size (.slice (some ⟨w.heap.size, 0, none⟩) ls.length ls.length) ls.length us'.toList := World.ownsRow_lit w us' ls.length (Nat.zero_le _) hmaxb hus'
  refine Does.made hR hd hkb hO (ob := .cells us' e) (v := .slice (some ⟨w.heap.size, 0, none⟩) ls.length ls.length) ?_ rfl rfl ?_ (.row (by rw [upd_same]) ⟨_, _, _, rfl⟩)
  · have hfill : Instr.fill (fun i => some (i * te.size, te.size)) us0 (parts.map fun x => (x.1, a.eval x.2)).toList = some us' := by simpa using k1
    have hn : ¬ ls.length * te.size > 2 ^ 24 := by omega
    simp only [execOp, ho, Instr.buildSlice, run_underlying hu, run_sizeOf' hi2, hsz2, if_neg hn, Sem.run_bind, Sem.run_pure, Result.andThen_ok]
    by_cases h0 : ls.length * te.size = 0
    · rw [if_pos h0] at hini3
      simp only [if_pos h0, Sem.run_bind, Sem.run_pure, Result.andThen_ok, hini3, hfill, run_newRow]
    · simp only [if_neg h0, run_zero hi2 hz2, Sem.run_bind, Sem.run_pure, Result.andThen_ok, hini, hfill, run_newRow]
  · have hge : ∀ q, q < ls.length * te.size → us'.toList.getD q undef = us'.getD q undef := by
      intro q hq
      have : q < us'.size := by omega
      simp [Array.getD, List.getD, this]
    have hq0 : ∀ q, q < ls.length * te.size → q / te.size < ls.length ∧ q % te.size < te.size := fun q hq => ⟨Nat.div_lt_of_lt_mul (by rw [Nat.mul_comm]; exact hq), Nat.mod_lt _ h1s⟩
    refine ⟨h1s, _, us'.toList, by rw [upd_same], hrow, ?_, k4, fun i q hi hq => ?_⟩
    · intro u hu3
      obtain ⟨q, hq, rfl⟩ := List.getElem_of_mem hu3
      have hq' : q < ls.length * te.size := by rw [← hus']; simpa using hq
      have := (k5 (q / te.size) (q % te.size) (hq0 q hq').1 (hq0 q hq').2).2
      rw [Nat.zero_add, Nat.mul_comm, Nat.div_add_mod, ← hge q hq'] at this
      simpa [List.getD, List.getElem?_eq_getElem hq] using this
    · have hlt : i * te.size + q < ls.length * te.size := by
        have : (i + 1) * te.size ≤ ls.length * te.size := Nat.mul_le_mul_right _ hi
        rw [Nat.add_mul, Nat.one_mul] at this
        omega
      rw [hge _ hlt]
      have := (k5 i q hi hq).1
      rw [Nat.zero_add] at this
      exact this.mono (fun _ hb => hb) (fun b hb => Below.heap_alloc _ _ _ (hR.lt b hb))
end
end Go.Proofs.YtojaakpnpdnbhaaGreatDoor.L
