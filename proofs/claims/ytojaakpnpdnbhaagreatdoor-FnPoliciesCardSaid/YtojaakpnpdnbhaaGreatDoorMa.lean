/- Parts of own rows; pointers to pointers: what operations do with them. -/
import Derived.Test.YtojaakpnpdnbhaaGreatDoorLz
import Derived.Laws.CopyRow
set_option linter.unusedVariables false
set_option linter.unusedSimpArgs false
namespace Go.Proofs.YtojaakpnpdnbhaaGreatDoor.L
open Go.RowKit

/-- a part of a row turned -/
def putF (lo m : Nat) (g f : Nat → List D) (i : Nat) : List D := if lo ≤ i ∧ i < lo + m then g (i - lo) else f i

/-- an own row, or a part of it -/
def subOf (s : LS) : LV → Option (Nat × Ent × Nat × Nat)
  | .row k => match s.hp k with
    | some (.row e sz n f) => some (k, .row e sz n f, 0, n)
    | _ => none
  | .sub k sz' lo hi => match s.hp k with
    | some (.row e sz n f) => bif Nat.beq sz sz' then some (k, .row e sz n f, lo, hi) else none
    | _ => none
  | _ => none

/-- a slice's elements, by value; parts of own rows too -/
def slVal2 (s : LS) (x : LV) : Option (Nat × (Nat → List D)) := match x with
  | .sub k sz' lo hi => match s.hp k with
    | some (.row _ sz n f) => bif Nat.beq sz sz' then some (hi - lo, fun i => f (lo + i)) else none
    | _ => none
  | y => slVal s y

def opC (T : TT) (lz : Bool) (kb : Nat) (o : Oper) (s : LS) : Option (Prop × LS) := match o.op with
  | .slice t x lo hi none => bif lz then (match T t with
    | some ti => match ti.k with
      | .slice e => match T e with
        | some te => match subOf s (leval s x) with
          | some (k, .row _ sz n _, a, b) => match optI s lo 0, optI s hi ((b - a : Nat) : Int) with
            | some l, some h => bif Nat.beq sz te.size then some (0 ≤ l ∧ l ≤ h ∧ (a : Int) + h ≤ (n : Int) ∧ (a < b ∨ a = 0), s.put o.dst (.sub k sz (a + l.toNat) (a + h.toNat))) else none
            | _, _ => none
          | _ => none
        | none => none
      | _ => none
    | none => none) else none
  | .slice t x lo (some hi) (some mx) => match T t with
    | some ti => match ti.k with
      | .slice e => match T e with
        | some te => match subOf s (leval s x) with
          | some (_, _, a, b) => match optI s lo 0, optI s (some hi) 0, optI s (some mx) 0 with
            | some l, some h, some m => some (0 ≤ l ∧ l ≤ h ∧ h ≤ m ∧ m ≤ ((b - a : Nat) : Int), s.put o.dst .bad)
            | _, _, _ => none
          | _ => none
        | none => none
      | _ => none
    | none => none
  | .call { callee := .builtin .copy, args, argTypes } => match args.toList, argTypes.toList with
    | [x, y], [t, t'] => match T t with
      | some ti => match ti.k with
        | .slice e => match T e with
          | some te => match subOf s (leval s x), slVal2 s (leval s y) with
            | some (k, .row e' sz n f, lo, hi), some (m, g) => bif Nat.beq sz te.size then
                some (∀ i, i < Nat.min m (hi - lo) → (g i).length = sz, { s with hp := upd s.hp k (some (.row e' sz n (putF lo (Nat.min m (hi - lo)) g f))) }.put o.dst (.d (.v (.int .i64 (Nat.min m (hi - lo) : Nat))))) else none
            | _, _ => none
          | none => none
        | _ => none
      | none => none
    | _, _ => none
  | .call { callee := .builtin .append, args, argTypes } => match args.toList, argTypes.toList with
    | [x, y], [t, t'] => bif Nat.beq t t' then (match T t with
      | some ti => match ti.k with
        | .slice e => match T e with
          | some te => match leval s x with
            | .sub k sz' lo hi => match s.hp k with
              | some (.row e' sz n f) => match slVal2 s (leval s y) with
                | some (m, g) => bif Nat.beq lo 0 && Nat.beq e e' && Nat.beq sz sz' && Nat.beq sz te.size then
                    some (hi + m ≤ n ∧ ∀ i, i < m → (g i).length = sz, { s with hp := upd s.hp k (some (.row e' sz n (putF hi m g f))) }.put o.dst (.sub k sz 0 (hi + m))) else none
                | none => none
              | _ => none
            | _ => none
          | none => none
        | _ => none
      | none => none) else none
    | _, _ => none
  | .call { callee := .builtin .clear, args, argTypes } => match args.toList, argTypes.toList with
    | [x], [t] => match T t with
      | some ti => match ti.k with
        | .slice e => match T e with
          | some te => match subOf s (leval s x) with
            | some (k, .row e' sz n f, lo, hi) => bif Nat.beq sz te.size && te.zero.all okVal then
                some (True, { s with hp := upd s.hp k (some (.row e' sz n (putF lo (hi - lo) (fun _ => te.zero.map .v) f))) }.put o.dst .bad) else none
            | _ => none
          | none => none
        | _ => none
      | none => none
    | _, _ => none
  | .call { callee := .builtin .len, args, argTypes } => match args.toList, argTypes.toList with
    | [x], [t] => match leval s x with
      | .sub k sz lo hi => match T t with
        | some ti => match ti.k with
          | .slice _ => some (True, s.put o.dst (.d (.v (.int .i64 ((hi - lo : Nat) : Int)))))
          | _ => none
        | none => none
      | _ => none
    | _, _ => none
  | .indexAddr t x y => match leval s x with
    | .sub k sz' lo hi => match s.hp k with
      | some (.row e' sz n f) => match leval s y with
        | .d (.v (.int _ i)) => match T t with
          | some ti => match ti.k with
            | .slice e => match T e with
              | some te => bif Nat.beq sz te.size && Nat.beq sz sz' then some (0 ≤ i ∧ i < ((hi - lo : Nat) : Int), s.put o.dst (.eptr k sz (lo + i.toNat) 0)) else none
              | none => none
            | _ => none
          | none => none
        | _ => none
      | _ => none
    | _ => none
  | .load t x => match leval s x with
    | .pptr cs => match T t with
      | some ti => match loadLV ti [.dptr cs] with
        | some r => some (True, s.put o.dst r)
        | none => none
      | none => none
    | _ => none
  | .nilCheck x => match leval s x with
    | .pptr cs => some (True, s.put o.dst (.pptr cs))
    | _ => none
  | _ => none

/-- an operation of these that writes nothing that was there -/
def opCr (o : Oper) : Bool := match o.op with
  | .slice _ _ _ _ _ => true
  | _ => false

section
variable {P : Program} {T : TT} {O : Nat → Prop} {nt : Nat} {ρ : Nat → Option Value} {I : Nat → Prop} {s : LS} {a : Act} {w : World} {kb : Nat} {o : Oper} {p : Prop} {s' : LS}

/-- where a part of an own row lies -/
structure Part (ρ : Nat → Option Value) (w : World) (I : Nat → Prop) (k : Nat) (e : TypeId) (sz n : Nat) (f : Nat → List D) (lo hi : Nat) (v : Value) : Prop where
  h0 : 0 < sz
  h1 : lo ≤ hi
  h2 : hi ≤ n
  or : (v = .slice none 0 0 ∧ n = 0 ∧ ρ k = some (.slice none 0 0)) ∨ ∃ g c off cur, v = .slice (some ⟨g, off, none⟩) (hi - lo) (c - lo) ∧ (lo < hi ∨ lo = 0 → off = lo * sz) ∧ ρ k = some (.slice (some ⟨g, 0, none⟩) n c) ∧
    w.heap[g]? = some (.cells cur e (0, 0)) ∧ n ≤ c ∧ c ≤ maxLen ∧ cur.size = c * sz ∧ (∀ u ∈ cur.toList.take (n * sz), u.oneCell' = true) ∧ (∀ i, i < n → (f i).length = sz) ∧
    ∀ i j, i < n → j < sz → Rd w I ((f i).getD j (.v undef)) (cur.toList.getD (i * sz + j) undef)

theorem getD_take_lt {α : Type} (l : List α) (m q : Nat) (x : α) (h : q < m) : (l.take m).getD q x = l.getD q x := by simp [List.getD, List.getElem?_take, h]
theorem lt_mul {i j n sz : Nat} (hi : i < n) (hj : j < sz) : i * sz + j < n * sz := by
  have : (i + 1) * sz ≤ n * sz := Nat.mul_le_mul_right _ hi
  rw [Nat.add_mul, Nat.one_mul] at this
  omega

theorem part_of {k : Nat} {e : TypeId} {sz n : Nat} {f : Nat → List D} (hE : ER ρ w I k (.row e sz n f)) {lo hi : Nat} {v : Value} (hlh : lo ≤ hi) (hhn : hi ≤ n)
    (hv : (v = .slice none 0 0 ∧ ρ k = some (.slice none 0 0)) ∨ ∃ g n' c off, v = .slice (some ⟨g, off, none⟩) (hi - lo) (c - lo) ∧ (lo < hi ∨ lo = 0 → off = lo * sz) ∧ ρ k = some (.slice (some ⟨g, 0, none⟩) n' c)) : Part ρ w I k e sz n f lo hi v := by
  obtain ⟨h0, u, xs, h2, h3, h4, h5, h6⟩ := hE
  refine ⟨h0, hlh, hhn, ?_⟩
  rcases hv with ⟨rfl, hρ⟩ | ⟨g, n', c, off, rfl, hoff, hρ⟩
  · obtain rfl := Option.some.inj (h2.symm.trans hρ)
    rcases h3.2 with ⟨_, rfl⟩ | ⟨g', cap, cur, h', _⟩
    · exact .inl ⟨rfl, rfl, hρ⟩
    · simp at h'
  · obtain rfl := Option.some.inj (h2.symm.trans hρ)
    rcases h3.2 with ⟨h', _⟩ | ⟨g', cap, cur, h', _, hg, hnc, hcm, hcs, htk⟩
    · simp at h'
    · simp only [Value.slice.injEq, Option.some.injEq, Addr.mk.injEq, and_true, true_and] at h'
      obtain ⟨rfl, rfl, rfl⟩ := h'
      refine .inr ⟨g, c, off, cur, rfl, hoff, hρ, hg, hnc, hcm, hcs, fun u hu => h4 u (by rw [← htk]; exact hu), h5, fun i j hi hj => ?_⟩
      have := h6 i j hi hj
      rw [← htk, getD_take_lt _ _ _ _ (lt_mul hi hj)] at this
      exact this

theorem subOf_sound (hR : Rel O nt ρ I s a w) {x : LV} {v : Value} (hx : VR ρ w I x v) {k : Nat} {en : Ent} {lo hi : Nat} (h : subOf s x = some (k, en, lo, hi)) :
    ∃ e sz n f, en = .row e sz n f ∧ s.hp k = some (.row e sz n f) ∧ Part ρ w I k e sz n f lo hi v := by
  unfold subOf at h
  split at h
  · rename_i k0
    split at h <;> (try (simp at h; done))
    rename_i e sz n f hk
    simp only [Option.some.injEq, Prod.mk.injEq] at h
    obtain ⟨rfl, rfl, rfl, rfl⟩ := h
    refine ⟨e, sz, n, f, rfl, hk, part_of (hR.hp _ _ hk) (Nat.zero_le _) (Nat.le_refl _) ?_⟩
    cases hx with
    | row hρ hv =>
      obtain ⟨_, u, xs, q1, q2, _⟩ := hR.hp _ _ hk
      obtain rfl := Option.some.inj (q1.symm.trans hρ)
      rcases q2.2 with ⟨rfl, _⟩ | ⟨g0, cap, cur, rfl, _⟩
      · exact .inl ⟨rfl, hρ⟩
      · exact .inr ⟨g0, n, cap, 0, rfl, fun _ => by simp, hρ⟩
  · rename_i k0 sz' lo' hi'
    split at h <;> (try (simp at h; done))
    rename_i e sz n f hk
    replace h := bif_some h
    obtain ⟨hz, h⟩ := h
    obtain rfl : sz = sz' := by simpa using hz
    simp only [Option.some.injEq, Prod.mk.injEq] at h
    obtain ⟨rfl, rfl, rfl, rfl⟩ := h
    obtain ⟨_, u, xs, q1, q2, _⟩ := hR.hp _ _ hk
    have hnn : ∀ g n' c, ρ k0 = some (.slice (some ⟨g, 0, none⟩) n' c) → n' = n := by
      intro g n' c hρ
      obtain rfl := Option.some.inj (q1.symm.trans hρ)
      rcases q2.2 with ⟨h', _⟩ | ⟨g', cap, cur, h', _⟩
      · simp at h'
      · simp at h'; exact h'.2.1
    cases hx with
    | sub hρ h1 h2 ho =>
      have := hnn _ _ _ hρ
      exact ⟨e, sz, n, f, rfl, hk, part_of (hR.hp _ _ hk) h1 (by omega) (.inr ⟨_, _, _, _, rfl, ho, hρ⟩)⟩
    | sub0 hρ => exact ⟨e, sz, n, f, rfl, hk, part_of (hR.hp _ _ hk) (Nat.le_refl _) (Nat.zero_le _) (.inl ⟨rfl, hρ⟩)⟩
  · simp at h

theorem slVal2_sound (hR : Rel O nt ρ I s a w) {x : LV} {v : Value} (hx : VR ρ w I x v) {m : Nat} {g : Nat → List D} (h : slVal2 s x = some (m, g)) :
    ∃ A c, v = .slice A m c ∧ (m = 0 ∨ ∃ ad sz, ∃ vs : Nat → Nat → Value, A = some ad ∧ 0 < sz ∧ (∀ i, i < m → (g i).length = sz) ∧ (∀ i j, i < m → j < sz → w.cell? (ad.add (i * sz + j)) = some (vs i j)) ∧ (∀ i j, i < m → j < sz → (vs i j).oneCell' = true) ∧
      ∀ i j, i < m → j < sz → Rd w I ((g i).getD j (.v undef)) (vs i j)) := by
  unfold slVal2 at h
  split at h
  · rename_i k sz' lo hi
    split at h <;> (try (simp at h; done))
    rename_i e sz n f hk
    replace h := bif_some h
    obtain ⟨hz, h⟩ := h
    simp only [Option.some.injEq, Prod.mk.injEq] at h
    obtain ⟨rfl, rfl⟩ := h
    obtain ⟨e1, sz1, n1, f1, q1, q2, hP⟩ := subOf_sound (k := k) (en := .row e sz n f) (lo := lo) (hi := hi) hR hx (by simp only [subOf, hk, hz, cond_true])
    simp only [Ent.row.injEq] at q1
    obtain ⟨rfl, rfl, rfl, rfl⟩ := q1
    obtain ⟨h0, h1, h2, hor⟩ := hP
    rcases hor with ⟨rfl, hn, _⟩ | ⟨g0, c, off, cur, rfl, hoff, hρ, hg, hnc, hcm, hcs, hone, hfl, hfr⟩
    · have e0 : hi - lo = 0 := by omega
      rw [e0]
      exact ⟨_, _, rfl, .inl rfl⟩
    · refine ⟨_, _, rfl, ?_⟩
      rcases Nat.eq_zero_or_pos (hi - lo) with h3 | h3
      · exact .inl h3
      · have hoff := hoff (.inl (by omega))
        have hlt : ∀ i j, i < hi - lo → j < sz → (lo + i) * sz + j < n * sz := fun i j hi' hj => lt_mul (by omega) hj
        have hlc : ∀ i j, i < hi - lo → j < sz → (lo + i) * sz + j < cur.size := fun i j hi' hj => by
          have := hlt i j hi' hj
          have h9 : n * sz ≤ c * sz := Nat.mul_le_mul_right _ hnc
          omega
        refine .inr ⟨⟨g0, off, none⟩, sz, fun i j => cur.toList.getD ((lo + i) * sz + j) undef, rfl, h0, fun i hi' => hfl _ (by omega), fun i j hi' hj => ?_, fun i j hi' hj => ?_, fun i j hi' hj => hfr _ _ (by omega) hj⟩
        · have hq := hlc i j hi' hj
          have e1 : off + (i * sz + j) = (lo + i) * sz + j := by rw [hoff, Nat.add_mul]; omega
          rw [add_mk, e1]
          simp [World.cell?, hg, hq, List.getD]
        · refine hone _ ?_
          have hq := hlc i j hi' hj
          have hq2 := hlt i j hi' hj
          rw [List.mem_iff_getElem?]
          refine ⟨(lo + i) * sz + j, ?_⟩
          rw [List.getElem?_take, if_pos hq2]
          simp [List.getD, hq]
  · exact slVal_sound hR hx h

/-- cells are put into a part of an own row -/
theorem rowPut (hR : Rel O nt ρ I s a w) {k : Nat} {e : TypeId} {sz n : Nat} {f : Nat → List D} (hk : s.hp k = some (.row e sz n f)) (h0 : 0 < sz) {g c : Nat} {cur : Array Value} (hρ : ρ k = some (.slice (some ⟨g, 0, none⟩) n c)) (hg : w.heap[g]? = some (.cells cur e (0, 0)))
    (hnc : n ≤ c) (hcm : c ≤ maxLen) (hcs : cur.size = c * sz) (hone : ∀ u ∈ cur.toList.take (n * sz), u.oneCell' = true) (hfl : ∀ i, i < n → (f i).length = sz) (hfr : ∀ i j, i < n → j < sz → Rd w I ((f i).getD j (.v undef)) (cur.toList.getD (i * sz + j) undef))
    {lo m : Nat} {gg : Nat → List D} {vs : List Value} (hvl : vs.length = m * sz) (hlm : lo + m ≤ n) (h1 : ∀ u ∈ vs, u.oneCell' = true) (hgl : ∀ i, i < m → (gg i).length = sz) (hgr : ∀ i j, i < m → j < sz → Rd w I ((gg i).getD j (.v undef)) (vs.getD (i * sz + j) undef)) :
    Rel O nt ρ I { s with hp := upd s.hp k (some (.row e sz n (putF lo m gg f))) } a (w.setRow g (cur.toList.take (lo * sz) ++ vs ++ cur.toList.drop (lo * sz + vs.length)).toArray) ∧
      Step O w (w.setRow g (cur.toList.take (lo * sz) ++ vs ++ cur.toList.drop (lo * sz + vs.length)).toArray) ∧ ∀ b, I b → (w.setRow g (cur.toList.take (lo * sz) ++ vs ++ cur.toList.drop (lo * sz + vs.length)).toArray).heap[b]? = w.heap[b]? := by
  have hOw := hR.ow k _ _ g hk hρ (.inl rfl)
  have hfit : lo * sz + vs.length ≤ cur.toList.length := by
    rw [hvl, ← Nat.add_mul, Array.length_toList, hcs]
    exact Nat.mul_le_mul_right _ (by omega)
  have hL : cur.toList.take (lo * sz) ++ vs ++ cur.toList.drop (lo * sz + vs.length) = splice cur.toList (lo * sz) vs := by rw [splice_eq, List.append_assoc]
  rw [hL]
  have hsl := length_splice cur.toList vs (lo * sz) hfit
  have hgd := fun j => getD_splice cur.toList vs (lo * sz) j undef hfit
  generalize splice cur.toList (lo * sz) vs = L at *
  have hoth : ∀ b, b ≠ g → (w.setRow g L.toArray).heap[b]? = w.heap[b]? := fun b hb => setRow_other w g b _ hb
  have hneI : ∀ b, I b → b ≠ g := fun b hb hbg => hOw.1 (hbg ▸ hb)
  have hsize : (w.setRow g L.toArray).heap.size = w.heap.size := by simp [World.setRow]
  have hn : n * sz ≤ L.length := by rw [hsl, Array.length_toList, hcs]; exact Nat.mul_le_mul_right _ hnc
  refine ⟨hR.setEnt hk hρ rfl hsize hoth ⟨h0, _, L.take (n * sz), hρ, ⟨by rw [List.length_take]; omega, .inr ⟨g, c, L.toArray, rfl, Nat.zero_le _, setRow_heap w g cur _ e (0, 0) hg, hnc, hcm, by rw [List.size_toArray, hsl, Array.length_toList, hcs], rfl⟩⟩, fun u hu => ?_, fun i hi => ?_, fun i j hi hj => ?_⟩ (fun b hb => .inl (foot_flat rfl hb)),
    ⟨rfl, rfl, rfl, by rw [hsize]; exact Nat.le_refl _, fun b hb _ => hoth b (fun e => hb (e ▸ hOw.2.1))⟩, fun b hb => hoth b (hneI b hb)⟩
  · obtain ⟨q, hq, rfl⟩ := List.getElem_of_mem hu
    rw [List.length_take] at hq
    have hq2 : q < L.length := by omega
    have e1 : (L.take (n * sz))[q]'(by rw [List.length_take]; exact hq) = L.getD q undef := by simp [List.getD, hq2]
    rw [e1, hgd]
    split
    · rename_i h
      have : q - lo * sz < vs.length := by omega
      simp only [List.getD, List.getElem?_eq_getElem this, Option.getD_some]
      exact h1 _ (List.getElem_mem _)
    · refine hone _ ?_
      rw [List.mem_iff_getElem?]
      refine ⟨q, ?_⟩
      have hq3 : q < cur.size := by rw [← Array.length_toList]; omega
      rw [List.getElem?_take, if_pos (by omega)]
      simp [List.getD, hq3]
  · simp only [putF]
    split
    · exact hgl _ (by omega)
    · exact hfl i hi
  · rw [getD_take_lt _ _ _ _ (lt_mul hi hj), hgd]
    simp only [putF]
    by_cases hin : lo ≤ i ∧ i < lo + m
    · rw [if_pos hin]
      have a1 : lo * sz ≤ i * sz := Nat.mul_le_mul_right _ hin.1
      have a2 : (i - lo) * sz + j < m * sz := lt_mul (by omega) hj
      have a3 : i * sz = lo * sz + (i - lo) * sz := by rw [← Nat.add_mul]; congr 1; omega
      rw [if_pos (by rw [hvl]; omega)]
      have e1 : i * sz + j - lo * sz = (i - lo) * sz + j := by omega
      rw [e1]
      exact (hgr _ _ (by omega) hj).mono (fun _ hb => hb) (fun b hb => hoth b (hneI b hb))
    · rw [if_neg hin]
      rw [if_neg (by
        rw [hvl]
        intro hc
        apply hin
        constructor
        · rcases Nat.lt_or_ge i lo with h | h
          · have : (i + 1) * sz ≤ lo * sz := Nat.mul_le_mul_right _ h
            rw [Nat.add_mul, Nat.one_mul] at this
            omega
          · exact h
        · rcases Nat.lt_or_ge i (lo + m) with h | h
          · exact h
          · have : (lo + m) * sz ≤ i * sz := Nat.mul_le_mul_right _ h
            rw [Nat.add_mul] at this
            omega)]
      exact (hfr i j hi hj).mono (fun _ hb => hb) (fun b hb => hoth b (hneI b hb))

/-- cells of a slice, one behind another -/
theorem slice_list {A : Option Addr} {m : Nat} {g : Nat → List D} {sz : Nat} (h0 : 0 < sz) (hsrc : m = 0 ∨ ∃ ad sz, ∃ vs : Nat → Nat → Value, A = some ad ∧ 0 < sz ∧ (∀ i, i < m → (g i).length = sz) ∧ (∀ i j, i < m → j < sz → w.cell? (ad.add (i * sz + j)) = some (vs i j)) ∧ (∀ i j, i < m → j < sz → (vs i j).oneCell' = true) ∧
      ∀ i j, i < m → j < sz → Rd w I ((g i).getD j (.v undef)) (vs i j)) {M : Nat} (hM : M ≤ m) (hp : 0 < M) (hgl : ∀ i, i < M → (g i).length = sz) :
    ∃ ad, ∃ news : List Value, A = some ad ∧ news.length = M * sz ∧ (∀ j u, news[j]? = some u → w.cell? (ad.add j) = some u) ∧ (∀ u ∈ news, u.oneCell' = true) ∧ ∀ i j, i < M → j < sz → Rd w I ((g i).getD j (.v undef)) (news.getD (i * sz + j) undef) := by
  rcases hsrc with rfl | ⟨ad, sz', vs, hA, hz, hl, hv, h4, hr⟩
  · omega
  obtain rfl : sz' = sz := by rw [← hl 0 (by omega), hgl 0 hp]
  have hq0 : ∀ q, q < M * sz' → q / sz' < M ∧ q % sz' < sz' := fun q hq => ⟨Nat.div_lt_of_lt_mul (by rw [Nat.mul_comm]; exact hq), Nat.mod_lt _ h0⟩
  have hgt : ∀ q, q < M * sz' → ((List.range (M * sz')).map fun q => vs (q / sz') (q % sz')).getD q undef = vs (q / sz') (q % sz') := by
    intro q hq
    simp [List.getD, hq]
  refine ⟨ad, (List.range (M * sz')).map fun q => vs (q / sz') (q % sz'), hA, by simp, fun j u hj => ?_, fun u hu3 => ?_, fun i j hi hj => ?_⟩
  · have hlt : j < M * sz' := by
      rcases Nat.lt_or_ge j (M * sz') with h | h
      · exact h
      · rw [List.getElem?_eq_none (by simpa using h)] at hj; simp at hj
    have : u = vs (j / sz') (j % sz') := by simpa [hlt] using hj.symm
    rw [this]
    have h5 := hv (j / sz') (j % sz') (by have := (hq0 j hlt).1; omega) (hq0 j hlt).2
    rwa [Nat.mul_comm, Nat.div_add_mod] at h5
  · simp only [List.mem_map, List.mem_range] at hu3
    obtain ⟨q, hq, rfl⟩ := hu3
    exact h4 _ _ (by have := (hq0 q hq).1; omega) (hq0 q hq).2
  · have hlt := lt_mul hi hj
    rw [hgt _ hlt]
    have e1 : (i * sz' + j) / sz' = i := by rw [Nat.mul_comm, Nat.mul_add_div h0, Nat.div_eq_of_lt hj, Nat.add_zero]
    have e2 : (i * sz' + j) % sz' = j := by rw [Nat.mul_comm, Nat.mul_add_mod, Nat.mod_eq_of_lt hj]
    rw [e1, e2]
    exact hr i j (by omega) hj

theorem run_copy_any (w : World) (dT sT ty elem : TypeId) (i : TypeInfo) (g o dLen dCap : Nat) (a : Addr) (sLen sCap m : Nat) (cur : Array Value) (t : TypeId) (cs : List Value)
    (hu : P.underlying dT = some (.slice elem)) (hi : P.info? elem = some i) (hg : w.heap[g]? = some (.cells cur t (0, 0))) (hm : Nat.min sLen dLen = m) (hn : m * i.size = cs.length)
    (hsrc : ∀ j v, cs[j]? = some v → w.cell? (a.add j) = some v) (hfit : o + cs.length ≤ cur.size) (h1 : ∀ v ∈ cs, v.oneCell' = true) :
    (Builtin.copy_ #[dT, sT] ty #[.slice (some ⟨g, o, none⟩) dLen dCap, .slice (some a) sLen sCap]).run P w =
      .ok (goInt m) (w.setRow g (cur.toList.take o ++ cs ++ cur.toList.drop (o + cs.length)).toArray) := by
  have hl := run_loadCells_list (P := P) w a cs hsrc
  have hst := run_storeCells_at P g o t cs 0 cur w hg (by simpa using hfit) h1
  simp [Builtin.copy_, run_underlying hu, Builtin.lenOf, Builtin.firstCells, sizeOf, typeInfo, hi, hm, hn, hl, hst]
theorem run_copy_zero (w : World) (dT sT ty elem : TypeId) (i : TypeInfo) (A B : Option Addr) (dLen dCap sLen sCap : Nat) (hu : P.underlying dT = some (.slice elem)) (hi : P.info? elem = some i) (hm : Nat.min sLen dLen = 0) :
    (Builtin.copy_ #[dT, sT] ty #[.slice A dLen dCap, .slice B sLen sCap]).run P w = .ok (goInt 0) w := by
  cases A <;> cases B <;> simp [Builtin.copy_, run_underlying hu, Builtin.lenOf, Builtin.firstCells, sizeOf, typeInfo, hi, hm, loadCells, loadCellsFrom, storeCells]

theorem part_bounds (hR : Rel O nt ρ I s a w) {b : Bool} {len cap : Nat} {lo hi : Option Operand} {l h : Int} (hl : optI s lo 0 = some l) (hh : optI s hi len = some h) (h0 : 0 ≤ l) (h1 : l ≤ h) (h2 : h ≤ (cap : Int)) (h3 : len ≤ cap) :
    (Instr.sliceBounds b len cap (lo.map a.eval) (hi.map a.eval) none).run P w = .ok (l.toNat, h.toNat, cap) w := by
  have hl := optI_sound hR hl
  have hh := optI_sound hR hh
  rcases hl with ⟨rfl, rfl⟩ | ⟨k, hl⟩ <;> rcases hh with ⟨rfl, rfl⟩ | ⟨k', hh⟩
  · simp [Instr.sliceBounds]
  · simp only [Instr.sliceBounds, hh, Option.map_none, Sem.run_bind, Sem.run_pure, Result.andThen_ok, run_bound (show 0 ≤ h ∧ h ≤ (cap : Int) by omega), Int.toNat_zero]
  · simp only [Instr.sliceBounds, hl, Option.map_none, Sem.run_bind, Sem.run_pure, Result.andThen_ok, run_bound (show 0 ≤ l ∧ l ≤ (len : Int) by omega), Int.toNat_natCast, Option.isSome_none]
  · simp only [Instr.sliceBounds, hl, hh, Sem.run_bind, Sem.run_pure, Result.andThen_ok, run_bound (show 0 ≤ h ∧ h ≤ (cap : Int) by omega), run_bound (show 0 ≤ l ∧ l ≤ (h.toNat : Int) by omega), Option.isSome_none]

set_option maxHeartbeats 2000000 in
theorem opC_sound (hT : TOk P T) {lz : Bool} (h : opC T lz kb o s = some (p, s')) (hp : p) (hR : Rel O nt ρ I s a w) (hd : ∀ d, o.dst = some d → d < nt) (hkb : ρ kb = none) (hO : ∀ g, w.heap.size ≤ g → O g) : Does P O nt ρ I kb o s s' a w := by
  -- the rows turn in place
  have inPlace : ∀ {k : Nat} {e : TypeId} {sz n : Nat} {f : Nat → List D} {v : Value} {x : LV} {w' : World} {f' : Nat → List D}, (execOp a.eval o).run P w = .ok (.value v) w' → VR ρ w I x v → Rel O nt ρ I { s with hp := upd s.hp k (some (.row e sz n f')) } a w' → Step O w w' → (∀ b, I b → w'.heap[b]? = w.heap[b]?) →
      Does P O nt ρ I kb o s ({ s with hp := upd s.hp k (some (.row e sz n f')) }.put o.dst x) a w := by
    intro k e sz n f v x w' f' hrun hx hr hst hkeep
    exact ⟨LS.put_nx _ _ _, LS.put_lo _ _ _, _, v, w', ρ, I, hrun, .inl rfl, hr.put hd (hx.mono (Ext.refl _) (fun _ hb => hb) hkeep), Ext.refl _, fun _ _ => rfl, fun _ hb => hb, fun _ hb => .inl hb, hkeep, hst⟩
  -- nothing turns
  have same : ∀ {k : Nat} {e : TypeId} {sz n : Nat} {f f' : Nat → List D}, s.hp k = some (.row e sz n f) → (∀ i, i < n → f' i = f i) → Rel O nt ρ I { s with hp := upd s.hp k (some (.row e sz n f')) } a w := by
    intro k e sz n f f' hk hf
    obtain ⟨h0, v, xs, q1, q2, q3, q4, q5⟩ := hR.hp k _ hk
    have hE : ER ρ w I k (.row e sz n f') := ⟨h0, v, xs, q1, q2, q3, fun i hi => by rw [hf i hi]; exact q4 i hi, fun i j hi hj => by rw [hf i hi]; exact q5 i j hi hj⟩
    have sub : ∀ i e1, upd s.hp k (some (.row e sz n f')) i = some e1 → ∃ e2, s.hp i = some e2 ∧ ∀ v g, foot w v e1 g → foot w v e2 g := by
      intro i e1 he
      by_cases hi : i = k
      · subst hi
        simp only [upd_same, Option.some.injEq] at he
        subst he
        exact ⟨_, hk, fun v g hg => .inl (foot_flat rfl hg)⟩
      · rw [upd_ne _ _ hi] at he
        exact ⟨e1, he, fun _ _ h => h⟩
    refine ⟨hR.fr, fun i e1 he => ?_, fun i e1 v1 g1 he hv hg => ?_, fun i i' e1 e2 v1 v2 g1 he he' hv hv' hg hg' => ?_, hR.lt, hR.df, hR.sz, hR.gl⟩
    · by_cases hi : i = k
      · subst hi
        simp only [upd_same, Option.some.injEq] at he
        subst he
        exact hE
      · simp only [upd_ne _ _ hi] at he
        exact hR.hp i e1 he
    · obtain ⟨e3, r1, r2⟩ := sub i e1 he
      exact hR.ow i e3 v1 g1 r1 hv (r2 _ _ hg)
    · obtain ⟨e3, r1, r2⟩ := sub i e1 he
      obtain ⟨e4, r3, r4⟩ := sub i' e2 he'
      exact hR.ds i i' e3 e4 v1 v2 g1 r1 r3 hv hv' (r2 _ _ hg) (r4 _ _ hg')
  unfold opC at h
  split at h <;> (try (simp at h; done))
  · rename_i t x lo hi ho
    replace h := bif_some h
    obtain ⟨hlz, h⟩ := h
    split at h <;> (try (simp at h; done))
    rename_i ti ht
    split at h <;> (try (simp at h; done))
    rename_i e hk
    have hu := slice_at hT ht hk
    split at h <;> (try (simp at h; done))
    rename_i te hte
    obtain ⟨i2, d2, z2, hi2, hu2, hz2, hsz2, hby2, hc2, hl2, hk2⟩ := (hT e te hte).ex
    split at h <;> (try (simp at h; done))
    rename_i k e' sz n f a0 b0 hso
    obtain ⟨e1, sz1, n1, f1, q1, q2, hP⟩ := subOf_sound hR (leval_sound hR x) hso
    simp only [Ent.row.injEq] at q1
    obtain ⟨rfl, rfl, rfl, rfl⟩ := q1
    split at h <;> (try (simp at h; done))
    rename_i l hh hlo hhi
    replace h := bif_some h
    obtain ⟨hzz, h⟩ := h
    obtain rfl : sz = te.size := by simpa using hzz
    simp only [Option.some.injEq, Prod.mk.injEq] at h
    obtain ⟨rfl, rfl⟩ := h
    obtain ⟨p0, p1, p2, p3⟩ := hp
    obtain ⟨h0, h1, h2, hor⟩ := hP
    have run : ∀ v, (Instr.slice t (a.eval x) (lo.map a.eval) (hi.map a.eval) none).run P w = .ok v w → (execOp a.eval o).run P w = .ok (.value v) w := by
      intro v hv
      have : (Instr.sliceAt t (a.eval x) (lo.map a.eval) (hi.map a.eval) none).run P w = .ok v w := by
        simp only [Instr.sliceAt, Sem.run_bind, run_underlying hu, Result.andThen_ok]
        exact hv
      simp only [execOp, ho, this, Option.map_none, Sem.run_bind, Result.andThen_ok, Sem.run_pure]
    rcases hor with ⟨hax, hn0, hρ⟩ | ⟨g, c, off, cur, hax, hoff, hρ, hg, hnc, hcm, hcs, hone, hfl, hfr⟩
    · have e0 : b0 - a0 = 0 := by omega
      have ea : a0 = 0 := by omega
      have el : l = 0 := by omega
      have eh : hh = 0 := by omega
      subst ea el eh
      have hb := part_bounds (P := P) (b := true) (cap := 0) hR hlo (by rw [e0] at hhi; exact hhi) (by omega) (by omega) (by omega) (Nat.le_refl 0)
      refine Does.value hR hd (run (.slice none 0 0) ?_) (.sub0 hρ)
      rw [hax]
      simp only [Instr.slice, run_underlying hu, hb, run_sizeOf' hi2, Sem.run_bind, Sem.run_pure, Result.andThen_ok]
      simp
    · have hb := part_bounds (P := P) (b := true) (cap := c - a0) hR hlo hhi (by omega) p1 (by omega) (by omega)
      have hoff := hoff p3
      refine Does.value hR hd (run (.slice (some ⟨g, if c - a0 = l.toNat then off else off + l.toNat * te.size, none⟩) ((a0 + hh.toNat) - (a0 + l.toNat)) (c - (a0 + l.toNat))) ?_) (.sub hρ (by omega) (by omega) (fun hc => ?_))
      · rw [hax]
        have e3 : (a0 + hh.toNat) - (a0 + l.toNat) = hh.toNat - l.toNat := by omega
        have e4 : c - (a0 + l.toNat) = c - a0 - l.toNat := by omega
        rw [e3, e4]
        simp only [Instr.slice, run_underlying hu, hb, run_sizeOf' hi2, hsz2, Sem.run_bind, Sem.run_pure, Result.andThen_ok]
        split <;> simp [add_mk]
      · split
        · rename_i hcl
          rcases hc with hc | hc
          · omega
          · have e8 : l.toNat = 0 := by omega
            rw [e8, Nat.add_zero]
            exact hoff
        · rw [hoff, ← Nat.add_mul]
  · rename_i t x lo hi mx ho
    split at h <;> (try (simp at h; done))
    rename_i ti ht
    split at h <;> (try (simp at h; done))
    rename_i e hk
    have hu := slice_at hT ht hk
    split at h <;> (try (simp at h; done))
    rename_i te hte
    obtain ⟨i2, d2, z2, hi2, hu2, hz2, hsz2, hby2, hc2, hl2, hk2⟩ := (hT e te hte).ex
    split at h <;> (try (simp at h; done))
    rename_i k en a0 b0 hso
    obtain ⟨e1, sz1, n1, f1, rfl, q2, hP⟩ := subOf_sound hR (leval_sound hR x) hso
    split at h <;> (try (simp at h; done))
    rename_i l hh m hlo hhi hmx
    simp only [Option.some.injEq, Prod.mk.injEq] at h
    obtain ⟨rfl, rfl⟩ := h
    obtain ⟨p0, p1, p2, p3⟩ := hp
    have hsl : ∃ A n c, a.eval x = .slice A n c ∧ b0 - a0 ≤ c := by
      obtain ⟨h0, h1, h2, hor⟩ := hP
      rcases hor with ⟨hax, hn0, hρ⟩ | ⟨g, c, off, cur, hax, hoff, hρ, hg, hnc, _⟩
      · exact ⟨_, _, _, hax, by omega⟩
      · exact ⟨_, _, _, hax, by omega⟩
    obtain ⟨A, n, c, hax, hbc⟩ := hsl
    have hlo := optI_sound hR hlo
    have hhi := optI_sound hR hhi
    have hmx := optI_sound hR hmx
    simp only [reduceCtorEq, false_and, false_or, Option.map_some, Option.some.injEq] at hhi hmx
    obtain ⟨kh, hhi⟩ := hhi
    obtain ⟨km, hmx⟩ := hmx
    have hb : (Instr.sliceBounds true n c (lo.map a.eval) (some (a.eval hi)) (some (a.eval mx))).run P w = .ok (l.toNat, hh.toNat, m.toNat) w := by
      rcases hlo with ⟨rfl, rfl⟩ | ⟨kl, hlo⟩
      · simp only [Instr.sliceBounds, hhi, hmx, Option.map_none, Sem.run_bind, Sem.run_pure, Result.andThen_ok, if_true, run_bound (show 0 ≤ m ∧ m ≤ (c : Int) by omega), run_bound (show 0 ≤ hh ∧ hh ≤ (m.toNat : Int) by omega), Int.toNat_zero]
      · simp only [Instr.sliceBounds, hlo, hhi, hmx, Sem.run_bind, Sem.run_pure, Result.andThen_ok, if_true, run_bound (show 0 ≤ m ∧ m ≤ (c : Int) by omega), run_bound (show 0 ≤ hh ∧ hh ≤ (m.toNat : Int) by omega), run_bound (show 0 ≤ l ∧ l ≤ (hh.toNat : Int) by omega)]
    have hrun : ∃ v, (execOp a.eval o).run P w = .ok (.value v) w := by
      have : ∃ v, (Instr.sliceAt t (a.eval x) (lo.map a.eval) (some (a.eval hi)) (some (a.eval mx))).run P w = .ok v w := by
        refine ⟨.slice (if m.toNat = l.toNat then A else A.map (·.add (l.toNat * te.size))) (hh.toNat - l.toNat) (m.toNat - l.toNat), ?_⟩
        simp only [Instr.sliceAt, Sem.run_bind, run_underlying hu, Result.andThen_ok]
        rw [hax]
        simp only [Instr.slice, run_underlying hu, hb, run_sizeOf' hi2, hsz2, Sem.run_bind, Sem.run_pure, Result.andThen_ok]
      obtain ⟨v, hv⟩ := this
      exact ⟨v, by simp only [execOp, ho, hv, Option.map_some, Sem.run_bind, Result.andThen_ok, Sem.run_pure]⟩
    obtain ⟨v, hv⟩ := hrun
    exact Does.value hR hd hv (.bad _)
  · rename_i args ts ho
    split at h <;> (try (simp at h; done))
    rename_i x y t t' hargs hts
    obtain rfl : args = #[x, y] := by cases args; simp_all
    obtain rfl : ts = #[t, t'] := by cases ts; simp_all
    split at h <;> (try (simp at h; done))
    rename_i ti ht
    split at h <;> (try (simp at h; done))
    rename_i e hk
    have hu := slice_at hT ht hk
    split at h <;> (try (simp at h; done))
    rename_i te hte
    obtain ⟨i2, d2, z2, hi2, hu2, hz2, hsz2, hby2, hc2, hl2, hk2⟩ := (hT e te hte).ex
    split at h <;> (try (simp at h; done))
    rename_i k e' sz n f lo hi m g hso hsv
    obtain ⟨e1, sz1, n1, f1, q1, q2, hP⟩ := subOf_sound hR (leval_sound hR x) hso
    simp only [Ent.row.injEq] at q1
    obtain ⟨rfl, rfl, rfl, rfl⟩ := q1
    replace h := bif_some h
    obtain ⟨hzz, h⟩ := h
    obtain rfl : sz = te.size := by simpa using hzz
    simp only [Option.some.injEq, Prod.mk.injEq] at h
    obtain ⟨rfl, rfl⟩ := h
    obtain ⟨A, c, hay, hsrc⟩ := slVal2_sound hR (leval_sound hR y) hsv
    obtain ⟨h0, h1, h2, hor⟩ := hP
    have run : ∀ v' w', (Builtin.copy_ #[t, t'] o.type #[a.eval x, a.eval y]).run P w = .ok v' w' → (execOp a.eval o).run P w = .ok (.value v') w' := by
      intro v' w' hr
      simp only [execOp, ho, resolve, invoke, builtin, List.map_toArray, List.map_cons, List.map_nil, hr, Sem.run_bind, Result.andThen_ok, Sem.run_pure]
    have hmin1 : Nat.min m (hi - lo) ≤ m := Nat.min_le_left _ _
    have hmin2 : Nat.min m (hi - lo) ≤ hi - lo := Nat.min_le_right _ _
    generalize hM : Nat.min m (hi - lo) = M at *
    rcases Nat.eq_zero_or_pos M with hM0 | hM0
    · subst hM0
      have hx0 : ∃ B c', a.eval x = .slice B (hi - lo) c' := by
        rcases hor with ⟨hax, hn0, hρ⟩ | ⟨g, c, off, cur, hax, _⟩
        · have e0 : hi - lo = 0 := by omega
          exact ⟨_, _, by rw [e0]; exact hax⟩
        · exact ⟨_, _, hax⟩
      obtain ⟨B, c', hax⟩ := hx0
      have hr := run_copy_zero (P := P) w t t' o.type e i2 B A (hi - lo) c' m c hu hi2 hM
      exact inPlace (f := f) (run _ _ (by rw [hax, hay]; exact hr)) (.d (.v _)) (same q2 (fun i hi' => by simp only [putF]; rw [if_neg (by omega)])) (Step.refl _ _) (fun _ _ => rfl)
    · rcases hor with ⟨hax, hn0, hρ⟩ | ⟨g0, c0, off, cur, hax, hoff, hρ, hg, hnc, hcm, hcs, hone, hfl, hfr⟩
      · omega
      obtain ⟨ad, news, rfl, hnl, hnews, hn1, hnr⟩ := slice_list h0 hsrc hmin1 hM0 hp
      clear hsrc
      have hoff := hoff (.inl (by omega))
      subst hoff
      have hfit : lo * te.size + news.length ≤ cur.size := by
        rw [hnl, ← Nat.add_mul, hcs]; exact Nat.mul_le_mul_right _ (by omega)
      have hr := run_copy_any (P := P) w t t' o.type e i2 g0 (lo * te.size) (hi - lo) (c0 - lo) ad m c M cur e' news hu hi2 hg hM (by rw [hsz2, hnl]) hnews hfit hn1
      obtain ⟨r1, r2, r3⟩ := rowPut hR q2 h0 hρ hg hnc hcm hcs hone hfl hfr (lo := lo) (m := M) (gg := g) (vs := news) hnl (by omega) hn1 hp hnr
      exact inPlace (f := f) (run _ _ (by rw [hax, hay]; exact hr)) (.d (.v _)) r1 r2 r3
  · rename_i args ts ho
    split at h <;> (try (simp at h; done))
    rename_i x y t t' hargs hts
    replace h := bif_some h
    obtain ⟨htt, h⟩ := h
    obtain rfl : t = t' := by simpa using htt
    obtain rfl : args = #[x, y] := by cases args; simp_all
    obtain rfl : ts = #[t, t] := by cases ts; simp_all
    split at h <;> (try (simp at h; done))
    rename_i ti ht
    split at h <;> (try (simp at h; done))
    rename_i e hk
    have hu := slice_at hT ht hk
    split at h <;> (try (simp at h; done))
    rename_i te hte
    obtain ⟨i2, d2, z2, hi2, hu2, hz2, hsz2, hby2, hc2, hl2, hk2⟩ := (hT e te hte).ex
    split at h <;> (try (simp at h; done))
    rename_i k sz' lo hi hlx
    split at h <;> (try (simp at h; done))
    rename_i e' sz n f hkk
    split at h <;> (try (simp at h; done))
    rename_i m g hsv
    replace h := bif_some h
    obtain ⟨hcc, h⟩ := h
    simp only [Bool.and_eq_true] at hcc
    obtain ⟨⟨⟨c1, c2⟩, c3⟩, c4⟩ := hcc
    obtain rfl : lo = 0 := by simpa using c1
    obtain rfl : e = e' := by simpa using c2
    obtain rfl : sz = sz' := by simpa using c3
    obtain rfl : sz = te.size := by simpa using c4
    simp only [Option.some.injEq, Prod.mk.injEq] at h
    obtain ⟨rfl, rfl⟩ := h
    obtain ⟨hb, hgl⟩ := hp
    have hx := leval_sound hR x
    rw [hlx] at hx
    obtain ⟨e1, sz1, n1, f1, q1, q2, hP⟩ := subOf_sound (k := k) (en := .row e te.size n f) (lo := 0) (hi := hi) hR hx (by simp only [subOf, hkk, Nat.beq_refl, cond_true])
    simp only [Ent.row.injEq] at q1
    obtain ⟨rfl, rfl, rfl, rfl⟩ := q1
    obtain ⟨A, c, hay, hsrc⟩ := slVal2_sound hR (leval_sound hR y) hsv
    obtain ⟨h0, h1, h2, hor⟩ := hP
    have run : ∀ v' w', (Builtin.append_ #[t, t] o.type #[a.eval x, a.eval y]).run P w = .ok v' w' → (execOp a.eval o).run P w = .ok (.value v') w' := by
      intro v' w' hr
      simp only [execOp, ho, resolve, invoke, builtin, List.map_toArray, List.map_cons, List.map_nil, hr, Sem.run_bind, Result.andThen_ok, Sem.run_pure]
    rcases Nat.eq_zero_or_pos m with hm0 | hm0
    · subst hm0
      rcases hor with ⟨hax, hn0, hρ⟩ | ⟨g0, c0, off, cur, hax, hoff, hρ, hg, hnc, hcm, hcs, hone, hfl, hfr⟩
      · have e0 : hi = 0 := by omega
        subst e0
        have hr : (Builtin.append_ #[t, t] o.type #[.slice none 0 0, .slice A 0 c]).run P w = .ok (.slice none 0 0) w := by
          cases A <;> simp [Builtin.append_, run_underlying hu, sizeOf, typeInfo, hi2, Builtin.lenOf, Builtin.firstCells, loadCells, loadCellsFrom]
        exact inPlace (f := f) (run _ _ (by rw [hax, hay]; exact hr)) (.sub0 hρ) (same q2 (fun i hi' => by simp only [putF]; rw [if_neg (by omega)])) (Step.refl _ _) (fun _ _ => rfl)
      · have hr : (Builtin.append_ #[t, t] o.type #[.slice (some ⟨g0, off, none⟩) (hi - 0) (c0 - 0), .slice A 0 c]).run P w = .ok (.slice (some ⟨g0, off, none⟩) (hi - 0) (c0 - 0)) w := by
          have hle : hi ≤ c0 := by omega
          cases A <;> simp [Builtin.append_, run_underlying hu, sizeOf, typeInfo, hi2, Builtin.lenOf, Builtin.firstCells, loadCells, loadCellsFrom, storeCells, hle]
        refine inPlace (f := f) (run _ _ (by rw [hax, hay]; exact hr)) ?_ (same q2 (fun i hi' => by simp only [putF]; rw [if_neg (by omega)])) (Step.refl _ _) (fun _ _ => rfl)
        exact .sub (off := off) hρ (Nat.zero_le _) (by omega) (fun _ => hoff (.inr rfl))
    · rcases hor with ⟨hax, hn0, hρ⟩ | ⟨g0, c0, off, cur, hax, hoff, hρ, hg, hnc, hcm, hcs, hone, hfl, hfr⟩
      · omega
      obtain ⟨ad, news, rfl, hnl, hnews, hn1, hnr⟩ := slice_list h0 hsrc (Nat.le_refl m) hm0 hgl
      clear hsrc
      have hoff := hoff (.inr rfl)
      rw [Nat.zero_mul] at hoff
      subst hoff
      have hfit : hi * i2.size + news.length ≤ cur.size := by
        rw [hnl, hsz2, ← Nat.add_mul, hcs]; exact Nat.mul_le_mul_right _ (by omega)
      have hr := run_append_room (P := P) w t o.type e i2 hu hi2 g0 hi c0 cur hg ad m c news (by rw [hsz2]; exact hnl) hnews hn1 (by omega) hfit
      rw [hsz2] at hr
      obtain ⟨r1, r2, r3⟩ := rowPut hR q2 h0 hρ hg hnc hcm hcs hone hfl hfr (lo := hi) (m := m) (gg := g) (vs := news) hnl hb hn1 hgl hnr
      refine inPlace (f := f) (run _ _ (by rw [hax, hay]; exact hr)) ?_ r1 r2 r3
      exact .sub (off := 0) hρ (Nat.zero_le _) hb (fun _ => by simp)
  · rename_i args ts ho
    split at h <;> (try (simp at h; done))
    rename_i x t hargs hts
    obtain rfl : args = #[x] := by cases args; simp_all
    obtain rfl : ts = #[t] := by cases ts; simp_all
    split at h <;> (try (simp at h; done))
    rename_i ti ht
    split at h <;> (try (simp at h; done))
    rename_i e hk
    have hu := slice_at hT ht hk
    split at h <;> (try (simp at h; done))
    rename_i te hte
    obtain ⟨i2, d2, z2, hi2, hu2, hz2, hsz2, hby2, hc2, hl2, hk2⟩ := (hT e te hte).ex
    split at h <;> (try (simp at h; done))
    rename_i k e' sz n f lo hi hso
    obtain ⟨e1, sz1, n1, f1, q1, q2, hP⟩ := subOf_sound hR (leval_sound hR x) hso
    simp only [Ent.row.injEq] at q1
    obtain ⟨rfl, rfl, rfl, rfl⟩ := q1
    replace h := bif_some h
    obtain ⟨hcc, h⟩ := h
    simp only [Bool.and_eq_true] at hcc
    obtain ⟨hzz, hzo⟩ := hcc
    obtain rfl : sz = te.size := by simpa using hzz
    simp only [Option.some.injEq, Prod.mk.injEq] at h
    obtain ⟨rfl, rfl⟩ := h
    obtain ⟨h0, h1, h2, hor⟩ := hP
    have run : ∀ v' w', (Builtin.clear_ #[t] o.type #[a.eval x]).run P w = .ok v' w' → (execOp a.eval o).run P w = .ok (.value v') w' := by
      intro v' w' hr
      simp only [execOp, ho, resolve, invoke, builtin, List.map_toArray, List.map_cons, List.map_nil, hr, Sem.run_bind, Result.andThen_ok, Sem.run_pure]
    rcases hor with ⟨hax, hn0, hρ⟩ | ⟨g0, c0, off, cur, hax, hoff, hρ, hg, hnc, hcm, hcs, hone, hfl, hfr⟩
    · have hr : (Builtin.clear_ #[t] o.type #[.slice none 0 0]).run P w = .ok (.tuple #[]) w := by simp [Builtin.clear_, run_underlying hu]
      exact inPlace (f := f) (run _ _ (by rw [hax]; exact hr)) (.bad _) (same q2 (fun i hi' => by omega)) (Step.refl _ _) (fun _ _ => rfl)
    · rcases Nat.eq_zero_or_pos (hi - lo) with hz | hz
      · rw [hz] at hax
        have hr : (Builtin.clear_ #[t] o.type #[.slice (some ⟨g0, off, none⟩) 0 (c0 - lo)]).run P w = .ok (.tuple #[]) w := by simp [Builtin.clear_, run_underlying hu]
        exact inPlace (f := f) (run _ _ (by rw [hax]; exact hr)) (.bad _) (same q2 (fun i hi' => by simp only [putF]; rw [if_neg (by omega)])) (Step.refl _ _) (fun _ _ => rfl)
      · have hoff := hoff (.inl (by omega))
        subst hoff
        obtain ⟨m, hm⟩ : ∃ m, hi - lo = m + 1 := ⟨hi - lo - 1, by omega⟩
        have hzs : z2.cells.size = te.size := by rw [hc2]; simpa using hl2
        have hzl : (Builtin.zeroCells z2.cells (hi - lo)).toList.length = (hi - lo) * te.size := by rw [Array.length_toList, size_zeroCells, hzs]
        have hzg : ∀ q, q < (hi - lo) * te.size → (Builtin.zeroCells z2.cells (hi - lo)).toList.getD q undef = te.zero.getD (q % te.size) undef := by
          intro q hq
          have hq2 : q % te.size < te.zero.length := by rw [hl2]; exact Nat.mod_lt _ h0
          have hq3 : q % te.size < z2.cells.size := by rw [hzs]; exact Nat.mod_lt _ h0
          simp only [Builtin.zeroCells, hzs]
          simp only [Array.toList_map, Array.toList_range, List.getD, List.getElem?_map]
          rw [List.getElem?_eq_getElem (by simpa using hq)]
          simp only [List.getElem_range, Option.map_some, Option.getD_some]
          rw [getElem!_pos z2.cells _ hq3, List.getElem?_eq_getElem hq2]
          simp [hc2]
        have hz1 : ∀ u ∈ te.zero, u.oneCell' = true := fun u hu => by
          have := List.all_eq_true.1 hzo u hu
          rwa [okVal_one] at this
        have hone' : ∀ u ∈ (Builtin.zeroCells z2.cells (hi - lo)).toList, u.oneCell' = true := by
          intro u hu3
          obtain ⟨q, hq, rfl⟩ := List.getElem_of_mem hu3
          have hq' := hq
          rw [hzl] at hq'
          have := hzg q hq'
          simp only [List.getD, List.getElem?_eq_getElem hq, Option.getD_some] at this
          rw [this]
          have hq2 : q % te.size < te.zero.length := by rw [hl2]; exact Nat.mod_lt _ h0
          rw [List.getElem?_eq_getElem hq2]
          exact hz1 _ (List.getElem_mem _)
        have hfit : lo * te.size + (Builtin.zeroCells z2.cells (hi - lo)).toList.length ≤ cur.size := by
          rw [hzl, ← Nat.add_mul, hcs]; exact Nat.mul_le_mul_right _ (by omega)
        have hst := run_storeCells_at P g0 (lo * te.size) e' (Builtin.zeroCells z2.cells (hi - lo)).toList 0 cur w hg (by simpa using hfit) hone'
        simp only [Nat.add_zero] at hst
        have hr : (Builtin.clear_ #[t] o.type #[.slice (some ⟨g0, lo * te.size, none⟩) (hi - lo) (c0 - lo)]).run P w = .ok (.tuple #[]) (w.setRow g0 (cur.toList.take (lo * te.size) ++ (Builtin.zeroCells z2.cells (hi - lo)).toList ++ cur.toList.drop (lo * te.size + (Builtin.zeroCells z2.cells (hi - lo)).toList.length)).toArray) := by
          rw [hm] at hst ⊢
          simp only [Builtin.clear_, run_underlying hu, Sem.run_bind, Result.andThen_ok, run_zero hi2 hz2, hst, Sem.run_pure, List.getElem?_toArray, List.getElem?_cons_zero]
        obtain ⟨r1, r2, r3⟩ := rowPut hR q2 h0 hρ hg hnc hcm hcs hone hfl hfr (lo := lo) (m := hi - lo) (gg := fun _ => te.zero.map .v) (vs := (Builtin.zeroCells z2.cells (hi - lo)).toList) hzl (by omega) hone' (fun i hi' => by simpa using hl2) (fun i j hi' hj => by
          have hlt := lt_mul hi' hj
          rw [hzg _ hlt]
          have e : (i * te.size + j) % te.size = j := by rw [Nat.mul_comm, Nat.mul_add_mod, Nat.mod_eq_of_lt hj]
          have hq2 : j < te.zero.length := by rw [hl2]; exact hj
          rw [e]
          simp only [List.getD, List.getElem?_map, List.getElem?_eq_getElem hq2, Option.map_some, Option.getD_some]
          exact .v _)
        exact inPlace (f := f) (run _ _ (by rw [hax]; exact hr)) (.bad _) r1 r2 r3
  · rename_i args ts ho
    split at h <;> (try (simp at h; done))
    rename_i x t hargs hts
    obtain rfl : args = #[x] := by cases args; simp_all
    obtain rfl : ts = #[t] := by cases ts; simp_all
    split at h <;> (try (simp at h; done))
    rename_i k sz lo hi hlx
    split at h <;> (try (simp at h; done))
    rename_i ti ht
    split at h <;> (try (simp at h; done))
    rename_i e hkk
    simp only [Option.some.injEq, Prod.mk.injEq] at h
    obtain ⟨rfl, rfl⟩ := h
    have hx := leval_sound hR x
    rw [hlx] at hx
    have hu := slice_at hT ht hkk
    have hA : ∃ A c, a.eval x = .slice A (hi - lo) c := by
      generalize a.eval x = v at hx
      cases hx with
      | sub => exact ⟨_, _, rfl⟩
      | sub0 => exact ⟨_, _, rfl⟩
    obtain ⟨A, c, hax⟩ := hA
    refine Does.value hR hd (v := .int .i64 ((hi - lo : Nat) : Int)) ?_ (.d (.v _))
    have hn : (Builtin.len_ #[t] o.type #[a.eval x]).run P w = .ok (.int .i64 ((hi - lo : Nat) : Int)) w := by simp [Builtin.len_, run_underlying hu, hax, goInt]
    simp only [execOp, ho, resolve, invoke, builtin, List.map_toArray, List.map_cons, List.map_nil, hn, Sem.run_bind, Result.andThen_ok, Sem.run_pure]
  · rename_i t x y ho
    have hx := leval_sound hR x
    have hy := leval_sound hR y
    split at h <;> (try (simp at h; done))
    rename_i k sz' lo hi hlx
    split at h <;> (try (simp at h; done))
    rename_i e' sz n f hkk
    split at h <;> (try (simp at h; done))
    rename_i kk i hly
    split at h <;> (try (simp at h; done))
    rename_i ti ht
    split at h <;> (try (simp at h; done))
    rename_i e hk
    have hu := slice_at hT ht hk
    split at h <;> (try (simp at h; done))
    rename_i te hte
    obtain ⟨i2, d2, z2, hi2, hu2, hz2, hsz2, hby2, hc2, hl2, hk2⟩ := (hT e te hte).ex
    replace h := bif_some h
    obtain ⟨hcc, h⟩ := h
    simp only [Bool.and_eq_true] at hcc
    obtain rfl : sz = te.size := by simpa using hcc.1
    obtain rfl : te.size = sz' := by simpa using hcc.2
    simp only [Option.some.injEq, Prod.mk.injEq] at h
    obtain ⟨rfl, rfl⟩ := h
    rw [hly] at hy
    have hy := VR.atom hy
    rw [hlx] at hx
    obtain ⟨p0, p1⟩ := hp
    generalize hax : a.eval x = vx at hx
    cases hx with
    | sub0 hρ => omega
    | @sub _ _ _ _ g n' c off hρ h1 h2 ho2 =>
      have hoff := ho2 (.inl (by omega))
      refine Does.value hR hd (v := .pointer (some ⟨g, (lo + i.toNat) * te.size + 0, none⟩)) ?_ (.eptr hρ)
      have e5 : off + i.toNat * te.size = (lo + i.toNat) * te.size + 0 := by rw [hoff, Nat.add_mul, Nat.add_zero]
      simp only [execOp, ho, hax, hy, Instr.indexAt, asIntOf, run_underlying hu, run_sizeOf' hi2, hsz2, p0, p1, and_self, if_true, Sem.run_bind, Result.andThen_ok, Sem.run_pure, add_mk, e5]
  · rename_i t x ho
    have hx := leval_sound hR x
    split at h <;> (try (simp at h; done))
    rename_i cs hlx
    split at h <;> (try (simp at h; done))
    rename_i ti ht
    split at h <;> (try (simp at h; done))
    rename_i r hr
    simp only [Option.some.injEq, Prod.mk.injEq] at h
    obtain ⟨rfl, rfl⟩ := h
    rw [hlx] at hx
    generalize hax : a.eval x = vx at hx
    cases hx with
    | @pptr _ ad u hs hI hc hv =>
      have h0 : ∀ j, j < [LV.dptr cs].length → j = 0 := fun j hj => by simp at hj; omega
      obtain ⟨v, hrun, hvr⟩ := load_sound (ρ := ρ) (I := I) hT ht (ad := ad) (cs := [.dptr cs]) (vs := fun _ => u) (fun j hj => by rw [h0 j hj, Addr.add_zero']; exact hc) (fun j hj => by rw [h0 j hj]; exact hv) hr
      exact Does.value hR hd (by simp only [execOp, ho, Instr.loadAt, Instr.sureAddr, hax, Sem.run_bind, Sem.run_pure, Result.andThen_ok, hrun]) hvr
  · rename_i x ho
    have hx := leval_sound hR x
    split at h <;> (try (simp at h; done))
    rename_i cs hlx
    simp only [Option.some.injEq, Prod.mk.injEq] at h
    obtain ⟨rfl, rfl⟩ := h
    rw [hlx] at hx
    generalize hax : a.eval x = vx at hx
    have hv : ∃ ad, vx = .pointer (some ad) := by cases hx with | pptr => exact ⟨_, rfl⟩
    obtain ⟨ad, rfl⟩ := hv
    exact Does.value hR hd (by simp only [execOp, ho, hax, Sem.run_pure]) hx
end
end Go.Proofs.YtojaakpnpdnbhaaGreatDoor.L
