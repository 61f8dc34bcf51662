/- What a call is handed, read as data: the arguments by value. -/
import Derived.Test.YtojaakpnpdnbhaaGreatDoorLm
import Derived.WalkKit
import Derived.ProofKit
import Derived.OpenShut
import Derived.ShutString
import Derived.ChangeOld
import Derived.Below
import Derived.SizedLaws
import Derived.DataReads
set_option linter.unusedVariables false
set_option linter.unusedSimpArgs false
namespace Go.Proofs.YtojaakpnpdnbhaaGreatDoor.L
open Go.RowKit Go.WideShapes

def Mem (w : World) (b : Nat) : Prop := b < w.heap.size
abbrev small {H : Type} (P : Program) (t : TypeId) (d : DataW H) : Prop := ∀ n ∈ d.weights P t, n ≤ reachBytes

/-- values of the type are told by these data -/
structure ReadsT (P : Program) (t : TypeId) (sz : Nat) (M : Type) (toD : M → List D) (ok : M → Prop) : Prop where
  cells : P.cellsOf t = sz
  rd : ∀ {H : Type} (enc : TypeId × Value → H) (w : World) (fuel : Nat) (cs : List Value) (x : DataW H × List MemPlace), DataW.trod enc P w 0 (fun _ => true) true fuel t cs = some x → small P t x.1 →
    cs.length = sz ∧ (∀ u ∈ cs, u.oneCell' = true) ∧ ∃ m, ok m ∧ (toD m).length = sz ∧ ∀ j, j < sz → Rd w (Mem w) ((toD m).getD j (.v undef)) (cs.getD j undef)

section
variable {P : Program} {t e : TypeId} {sz : Nat} {M M' : Type} {toD : M → List D} {ok : M → Prop}

theorem ReadsT.map (h : ReadsT P t sz M toD ok) {toD' : M' → List D} {ok' : M' → Prop} (g : M → M') (hg : ∀ m, ok m → ok' (g m) ∧ toD' (g m) = toD m) : ReadsT P t sz M' toD' ok' :=
  ⟨h.cells, fun enc w fuel cs x hx hs => by
    obtain ⟨h1, h2, m, h3, h4, h5⟩ := h.rd enc w fuel cs x hx hs
    exact ⟨h1, h2, g m, (hg m h3).1, by rw [(hg m h3).2]; exact h4, fun j hj => by rw [(hg m h3).2]; exact h5 j hj⟩⟩

theorem ReadsT.int {k : IntKind} (ht : P.underlying t = some (.int k)) (hc : P.cellsOf t = 1) : ReadsT P t 1 Int (fun n => [.v (.int k n)]) (fun n => (Lit.int k n).wf = true) :=
  ⟨hc, fun enc w fuel cs x hx hs => by
    obtain ⟨n, rfl, rfl, hw⟩ := DataW.trod_int ht hx
    refine ⟨rfl, by simp [Value.oneCell'], n, hw, rfl, fun j hj => ?_⟩
    obtain rfl : j = 0 := by omega
    exact .v _⟩

theorem ReadsT.bool (ht : P.underlying t = some .bool) (hc : P.cellsOf t = 1) : ReadsT P t 1 Bool (fun n => [.v (.bool n)]) (fun _ => True) :=
  ⟨hc, fun enc w fuel cs x hx hs => by
    obtain ⟨n, rfl, rfl⟩ := DataW.trod_bool ht hx
    refine ⟨rfl, by simp [Value.oneCell'], n, trivial, rfl, fun j hj => ?_⟩
    obtain rfl : j = 0 := by omega
    exact .v _⟩

theorem ReadsT.string (ht : P.underlying t = some .string) (hc : P.cellsOf t = 1) : ReadsT P t 1 ByteArray (fun n => [.v (.string n)]) (fun b => b.size ≤ reachBytes) :=
  ⟨hc, fun enc w fuel cs x hx hs => by
    obtain ⟨n, rfl, rfl, hw⟩ := DataW.trod_string ht hx
    have := hs n.data.toList.length (by simp [DataW.weights])
    refine ⟨rfl, by simp [Value.oneCell'], n, by simpa using this, rfl, fun j hj => ?_⟩
    obtain rfl : j = 0 := by omega
    exact .v _⟩

theorem exists_list {inh : M} {p : Nat → M → Prop} : ∀ (n : Nat), (∀ i, i < n → ∃ m, p i m) → ∃ l : List M, l.length = n ∧ ∀ i, i < n → p i (l.getD i inh)
  | 0, _ => ⟨[], rfl, fun i hi => absurd hi (by omega)⟩
  | n + 1, h => by
    obtain ⟨l, h1, h2⟩ := exists_list n (fun i hi => h i (by omega))
    obtain ⟨m, hm⟩ := h n (by omega)
    refine ⟨l ++ [m], by simp [h1], fun i hi => ?_⟩
    rcases Nat.lt_or_ge i n with hi' | hi'
    · have : (l ++ [m]).getD i inh = l.getD i inh := by simp [List.getD, List.getElem?_append_left (show i < l.length by omega)]
      rw [this]; exact h2 i hi'
    · obtain rfl : i = n := by omega
      have : (l ++ [m]).getD i inh = m := by simp [List.getD, List.getElem?_append_right (show l.length ≤ i by omega), h1]
      rw [this]; exact hm

theorem weightsAll_mem {H : Type} : ∀ {l : List (DataW H)} {d : DataW H}, d ∈ l → ∀ n ∈ d.weights P e, n ∈ DataW.weightsAll P e l
  | d' :: l, d, hd, n, hn => by
    simp only [DataW.weightsAll, List.mem_append]
    rcases List.mem_cons.1 hd with rfl | hd
    · exact .inl hn
    · exact .inr (weightsAll_mem hd n hn)

theorem ReadsT.slice (h : ReadsT P e sz M toD ok) (ht : P.underlying t = some (.slice e)) (hc : P.cellsOf t = 1) (hz : 0 < sz) (inh : M) {by' : Nat} (hb : P.bytesOf e = by') :
    ReadsT P t 1 (List M) (fun l => [.l l.length fun i => toD (l.getD i inh)]) (fun l => l.length * by' ≤ reachBytes ∧ ∀ x ∈ l, ok x) :=
  ⟨hc, fun enc w fuel cs x hx hs => by
    rcases DataW.trod_slice ht hx with ⟨rfl, rfl⟩ | ⟨a, len, cap, elems, rest, n, _, rfl, rfl, hb0, hl, hm, hlen, hel, hsp, hns⟩
    · refine ⟨rfl, by simp [Value.oneCell'], [], ⟨by simp, by simp⟩, rfl, fun j hj => ?_⟩
      obtain rfl : j = 0 := by omega
      exact .nil _ _ _
    · have hsl : (elems.length + rest.length) * P.bytesOf e ≤ reachBytes := hs _ (by
        unfold DataW.weights
        rw [ht]
        simp)
      have hel' : ∀ i, i < len → ∃ ci y, w.cells? 0 (a.add (i * P.cellsOf e)) (P.cellsOf e) = some ci ∧ DataW.trod enc P w 0 (fun _ => true) true n e ci = some y ∧ elems[i]? = some y := by
        intro i hi
        have := hel i hi
        have hi2 : i < elems.length := by omega
        rw [List.getElem?_eq_getElem hi2, Option.bind_eq_some_iff] at this
        obtain ⟨ci, h1, h2⟩ := this
        exact ⟨ci, _, h1, h2, List.getElem?_eq_getElem hi2⟩
      have hcell : ∀ (b : Addr) (m : Nat) (ci : List Value), w.cells? 0 b m = some ci → ci.length = m ∧ ∀ j, j < m → w.cell? (b.add j) = some (ci.getD j undef) := by
        intro b m ci hci
        unfold World.cells? at hci
        rw [if_pos (Nat.zero_le _)] at hci
        have h1 := mapM_some_length hci
        rw [List.length_range] at h1
        refine ⟨h1, fun j hj => ?_⟩
        have := mapM_some_get hci j j (by simp [hj])
        rw [this, List.getElem?_eq_getElem (by omega)]
        simp [List.getD, List.getElem?_eq_getElem (show j < ci.length by omega)]
      have hex : ∀ i, i < len → ∃ m, ok m ∧ ∃ ci : List Value, (∀ j, j < sz → w.cell? ((a.add (i * sz)).add j) = some (ci.getD j undef)) ∧ (∀ j, j < sz → (ci.getD j undef).oneCell' = true) ∧ (toD m).length = sz ∧ ∀ j, j < sz → Rd w (Mem w) ((toD m).getD j (.v undef)) (ci.getD j undef) := by
        intro i hi
        obtain ⟨ci, y, h1, h2, h3⟩ := hel' i hi
        rw [h.cells] at h1
        obtain ⟨q1, q2⟩ := hcell _ _ _ h1
        obtain ⟨r1, r2, m, r3, r4, r5⟩ := h.rd enc w n ci y h2 (fun k hk => hs k (by
          unfold DataW.weights
          rw [ht]
          simp only [List.mem_cons, List.mem_append]
          exact .inr (.inl (weightsAll_mem (List.mem_map.2 ⟨y, List.mem_of_getElem? h3, rfl⟩) k hk))))
        exact ⟨m, r3, ci, q2, fun j hj => r2 _ (by simp [List.getD, List.getElem?_eq_getElem (show j < ci.length by omega)]), r4, r5⟩
      obtain ⟨l, hl1, hl2⟩ := exists_list (inh := inh) len hex
      refine ⟨rfl, by simp [Value.oneCell'], l, ⟨?_, fun x hx => ?_⟩, rfl, fun j hj => ?_⟩
      · rw [← hb, hl1, ← hlen]
        exact Nat.le_trans (Nat.mul_le_mul_right _ (Nat.le_add_right _ _)) hsl
      · obtain ⟨i, hi, rfl⟩ := List.mem_iff_getElem.1 hx
        have := (hl2 i (by omega)).1
        simpa [List.getD, List.getElem?_eq_getElem hi] using this
      · obtain rfl : j = 0 := by omega
        show Rd w (Mem w) (.l l.length fun i => toD (l.getD i inh)) (.slice (some a) len cap)
        rw [hl1]
        rcases Nat.eq_zero_or_pos len with rfl | hpos
        · exact .nil _ _ _
        · obtain ⟨ci, q1, q2, q3, q4⟩ := (hl2 0 hpos).2
          have h0 := q1 0 hz
          have hlt : a.block < w.heap.size ∧ a.spot = none := by
            rw [Nat.zero_mul] at h0
            have e0 : (a.add 0).add 0 = a := by simp [Addr.add]
            rw [e0] at h0
            unfold World.cell? at h0
            split at h0 <;> (try (simp at h0; done))
            rename_i c _ _ hh
            split at h0 <;> (try (simp at h0; done))
            rename_i hsp2
            exact ⟨(Array.getElem?_eq_some_iff.1 hh).1, by simpa using hsp2⟩
          have hex2 : ∀ i, ∃ ci : List Value, i < len → (∀ j, j < sz → w.cell? ((a.add (i * sz)).add j) = some (ci.getD j undef)) ∧ (∀ j, j < sz → (ci.getD j undef).oneCell' = true) ∧ (toD (l.getD i inh)).length = sz ∧ ∀ j, j < sz → Rd w (Mem w) ((toD (l.getD i inh)).getD j (.v undef)) (ci.getD j undef) := by
            intro i
            rcases Nat.lt_or_ge i len with hi | hi
            · obtain ⟨ci, hci⟩ := (hl2 i hi).2
              exact ⟨ci, fun _ => hci⟩
            · exact ⟨[], fun h => absurd h (by omega)⟩
          have hch := Classical.choice ⟨fun i => Classical.choose (hex2 i)⟩
          refine .l len _ a cap sz (fun i j => (Classical.choose (hex2 i)).getD j undef) hpos hl hlt.1 hlt.2 hz (fun i hi => (Classical.choose_spec (hex2 i) hi).2.2.1) (fun i j hi hj => ?_) (fun i j hi hj => (Classical.choose_spec (hex2 i) hi).2.1 j hj) (fun i j hi hj => (Classical.choose_spec (hex2 i) hi).2.2.2 j hj)
          rw [← add_add a hlt.2]
          exact (Classical.choose_spec (hex2 i) hi).1 j hj⟩

/-- the fields of a struct -/
structure ReadsL (P : Program) (fts : List (Nat × TypeId)) (o sz : Nat) (M : Type) (toD : M → List D) (ok : M → Prop) : Prop where
  rd : ∀ {H : Type} (enc : TypeId × Value → H) (w : World) (n : Nat) (cs : List Value) (xs : List (DataW H × List MemPlace)), o + sz ≤ cs.length → xs.length = fts.length →
    (∀ (i : Nat) (f : Nat × TypeId), fts[i]? = some f → DataW.trod enc P w 0 (fun _ => true) true n f.2 ((cs.drop f.1).take (P.cellsOf f.2)) = xs[i]?) → (∀ k ∈ DataW.weightsEach P (fts.map (·.2)) (xs.map (·.1)), k ≤ reachBytes) →
    ∃ m, ok m ∧ (toD m).length = sz ∧ ∀ j, j < sz → (cs.getD (o + j) undef).oneCell' = true ∧ Rd w (Mem w) ((toD m).getD j (.v undef)) (cs.getD (o + j) undef)

theorem ReadsL.nil (o : Nat) : ReadsL P [] o 0 Unit (fun _ => []) (fun _ => True) :=
  ⟨fun enc w n cs xs _ _ _ _ => ⟨(), trivial, rfl, fun j hj => absurd hj (by omega)⟩⟩

theorem ReadsL.cons {fts : List (Nat × TypeId)} {o s2 : Nat} {toD2 : M' → List D} {ok2 : M' → Prop} (h : ReadsT P t sz M toD ok) (r : ReadsL P fts (o + sz) s2 M' toD2 ok2) :
    ReadsL P ((o, t) :: fts) o (sz + s2) (M × M') (fun m => toD m.1 ++ toD2 m.2) (fun m => ok m.1 ∧ ok2 m.2) :=
  ⟨fun enc w n cs xs hlen hxs hf hk => by
    cases xs with
    | nil => simp at hxs
    | cons y ys =>
      have h0 := hf 0 (o, t) rfl
      simp only [List.getElem?_cons_zero] at h0
      rw [h.cells] at h0
      obtain ⟨a1, a2, m, a3, a4, a5⟩ := h.rd enc w n _ y h0 (fun k hk' => hk k (by
        simp only [List.map_cons, DataW.weightsEach, List.mem_append]
        exact .inl hk'))
      obtain ⟨m', b1, b2, b3⟩ := r.rd enc w n cs ys (by omega) (by simpa using hxs) (fun i f hi => by simpa using hf (i + 1) f (by simpa using hi)) (fun k hk' => hk k (by
        simp only [List.map_cons, DataW.weightsEach, List.mem_append]
        exact .inr hk'))
      have hg : ∀ j, j < sz → ((cs.drop o).take sz).getD j undef = cs.getD (o + j) undef := by
        intro j hj
        simp [List.getD, List.getElem?_take, hj]
      refine ⟨(m, m'), ⟨a3, b1⟩, by simp [a4, b2], fun j hj => ?_⟩
      rcases Nat.lt_or_ge j sz with hj' | hj'
      · have e1 : (toD m ++ toD2 m').getD j (.v undef) = (toD m).getD j (.v undef) := by simp [List.getD, List.getElem?_append_left (show j < (toD m).length by omega)]
        have := a5 j hj'
        rw [hg j hj'] at this
        refine ⟨?_, by simp only [e1]; exact this⟩
        rw [← hg j hj']
        exact a2 _ (by simp only [List.getD, List.getElem?_eq_getElem (show j < ((cs.drop o).take sz).length by rw [a1]; exact hj'), Option.getD_some]; exact List.getElem_mem _)
      · have e1 : (toD m ++ toD2 m').getD j (.v undef) = (toD2 m').getD (j - sz) (.v undef) := by simp [List.getD, List.getElem?_append_right (show (toD m).length ≤ j by omega), a4]
        have := b3 (j - sz) (by omega)
        rw [show o + sz + (j - sz) = o + j by omega] at this
        exact ⟨this.1, by simp only [e1]; exact this.2⟩⟩

theorem ReadsT.struct {fs : Array Field} (ht : P.underlying t = some (.struct fs)) (hc : P.cellsOf t = sz) (h : ReadsL P (fs.toList.map fun f => (f.offset, f.type)) 0 sz M toD ok) : ReadsT P t sz M toD ok :=
  ⟨hc, fun enc w fuel cs x hx hs => by
    obtain ⟨xs, n, _, rfl, h1, h2, h3⟩ := DataW.trod_struct ht hx
    rw [hc] at h1
    obtain ⟨m, q1, q2, q3⟩ := h.rd enc w n cs xs (by omega) (by simpa using h2) (fun i f hi => by
        simp only [List.getElem?_map, Option.map_eq_some_iff] at hi
        obtain ⟨g, hg, rfl⟩ := hi
        exact h3 i g (by simpa using hg)) (fun k hk => hs k (by
        unfold DataW.weights
        rw [ht]
        simpa [Function.comp_def] using hk))
    refine ⟨h1, fun u hu => ?_, m, q1, q2, fun j hj => by simpa using (q3 j hj).2⟩
    obtain ⟨i, hi, rfl⟩ := List.mem_iff_getElem.1 hu
    have := (q3 i (by omega)).1
    simpa [List.getD, List.getElem?_eq_getElem hi] using this⟩

/-- a struct that is handed in -/
theorem ReadsT.agg (h : ReadsT P t sz M toD ok) {fs : Array Field} (ht : P.underlying t = some (.struct fs)) {w : World} {r : Reach} {base : Nat} {v : Value} (hv : Value.okWide P w r base t v) {H : Type} {enc : TypeId × Value → H} {d : DataW H} {ps : List MemPlace}
    (hd : DataW.Trod enc P w 0 (fun _ => true) true t v d ps) (hs : small P t d) : ∃ m, ok m ∧ VR (fun _ => none) w (Mem w) (.agg ((toD m).map .d)) v := by
  obtain ⟨cs, rfl, hsz⟩ := okWide_struct ht hv
  obtain ⟨fuel, hf⟩ := hd
  obtain ⟨h1, h2, m, h3, h4, h5⟩ := h.rd enc w fuel _ _ hf hs
  have h1 : cs.size = sz := by rw [hsz, h.cells]
  refine ⟨m, h3, .agg (by simp [h4, h1]) (fun j hj => ?_)⟩
  have hj : j < sz := by simp [h4] at hj; exact hj
  have := h5 j hj
  have e1 : ((toD m).map LV.d).getD j .bad = .d ((toD m).getD j (.v undef)) := by simp [List.getD, List.getElem?_eq_getElem (show j < (toD m).length by omega)]
  have e2 : (Value.agg cs).cells.toList.getD j undef = cs.getD j undef := by simp [Value.cells, List.getD, Array.getD, show j < cs.size by omega]
  rw [e1, ← e2]
  exact .d this

/-- a plain value that is handed in -/
theorem ReadsT.one (h : ReadsT P t 1 M toD ok) {w : World} {v : Value} (hv : v.cells = #[v]) {H : Type} {enc : TypeId × Value → H} {d : DataW H} {ps : List MemPlace}
    (hd : DataW.Trod enc P w 0 (fun _ => true) true t v d ps) (hs : small P t d) : ∃ m, ok m ∧ VR (fun _ => none) w (Mem w) (.d ((toD m).getD 0 (.v undef))) v := by
  obtain ⟨fuel, hf⟩ := hd
  rw [hv] at hf
  obtain ⟨h1, h2, m, h3, h4, h5⟩ := h.rd enc w fuel _ _ hf hs
  exact ⟨m, h3, .d (by simpa using h5 0 (by omega))⟩
end
end Go.Proofs.YtojaakpnpdnbhaaGreatDoor.L
