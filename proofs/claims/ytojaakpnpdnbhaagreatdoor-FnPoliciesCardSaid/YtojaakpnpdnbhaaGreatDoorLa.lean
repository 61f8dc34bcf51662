/- The symbolic logic of this seat: data by value, own rows and boxes by key; the relation between a symbolic state and the machine's. -/
import Derived.Below
import Derived.Test.YtojaakpnpdnbhaaGreatDoorMy
import Derived.Orders
import Derived.Laws.AppendOwn
import Derived.Laws.OwnMore
import Derived.KernelRfl
set_option linter.unusedVariables false
set_option linter.unusedSimpArgs false
namespace Go.Proofs.YtojaakpnpdnbhaaGreatDoor.L
open Go.RowKit

/-- Data by value: one cell's value, or a slice of so many elements, each a list of cells. -/
inductive D where
  | v (x : Value)
  | l (n : Nat) (f : Nat → List D)

inductive LV where
  | bad
  | d (x : D)
  | row (k : Nat)
  | ptr (k off : Nat)
  | eptr (k sz i off : Nat)
  | dptr (cs : List D)
  | agg (cs : List LV)
  | tup (cs : List LV)
  | fn (f : FuncId) (caps : List LV)
  | mp (k : Nat)
  | sub (k sz lo hi : Nat)
  | pptr (cs : List D)

/-- an element of a row of rows that is not the row's own: it has a name of its own, it is data, nothing is known of it -/
inductive NE where
  | own (m : Nat) (f : Nat → List D)
  | hole (k : Nat)
  | dat (x : D)
  | any

inductive Ent where
  | box (t : TypeId) (cs : List LV)
  | row (e : TypeId) (sz n : Nat) (f : Nat → List D)
  | map (t : TypeId) (f : Int → Bool)
  | nest (eo ei : TypeId) (sz n : Nat) (L : Nat → Nat) (f : Nat → Nat → List D) (ov : List (Nat × NE))

def lookN : List (Nat × NE) → Nat → Option NE
  | [], _ => none
  | (j, e) :: r, i => bif Nat.beq i j then some e else lookN r i
def nOf (L : Nat → Nat) (f : Nat → Nat → List D) (ov : List (Nat × NE)) (i : Nat) : NE := match lookN ov i with
  | some e => e
  | none => .own (L i) (f i)

structure LS where
  fr : Nat → LV
  hp : Nat → Option Ent
  nx : Nat
  lo : Nat

def upd {α : Type} (f : Nat → α) (k : Nat) (x : α) : Nat → α := fun i => bif Nat.beq i k then x else f i
theorem upd_same {α : Type} (f : Nat → α) (k : Nat) (x : α) : upd f k x k = x := by simp [upd, Nat.beq_refl]
theorem upd_ne {α : Type} (f : Nat → α) {k i : Nat} (x : α) (h : i ≠ k) : upd f k x i = f i := by
  have : Nat.beq i k = false := by rw [← Bool.not_eq_true, Nat.beq_eq]; exact h
  simp [upd, this]
theorem upd_eq {α : Type} (f : Nat → α) (k i : Nat) (x : α) : upd f k x i = if i = k then x else f i := by
  by_cases h : i = k
  · subst h; simp [upd_same]
  · simp [upd_ne _ _ h, h]

/-- The slice or pointer reads as the datum; all that it leads to lies in blocks of `I`. -/
inductive Rd (w : World) (I : Nat → Prop) : D → Value → Prop
  | v (x : Value) : Rd w I (.v x) x
  | nil (f : Nat → List D) (A : Option Addr) (c : Nat) : Rd w I (.l 0 f) (.slice A 0 c)
  | l (n : Nat) (f : Nat → List D) (a : Addr) (c sz : Nat) (vs : Nat → Nat → Value) (h0 : 0 < n) (hc : n ≤ c) (hI : I a.block) (hs : a.spot = none) (hz : 0 < sz)
      (hl : ∀ i, i < n → (f i).length = sz) (hv : ∀ i j, i < n → j < sz → w.cell? (a.add (i * sz + j)) = some (vs i j)) (h1 : ∀ i j, i < n → j < sz → (vs i j).oneCell' = true)
      (hr : ∀ i j, i < n → j < sz → Rd w I ((f i).getD j (.v undef)) (vs i j)) : Rd w I (.l n f) (.slice (some a) n c)

theorem add_block (a : Addr) (n : Nat) : (a.add n).block = a.block := by unfold Addr.add; split <;> rfl
theorem add_add (a : Addr) (hs : a.spot = none) (m n : Nat) : (a.add m).add n = a.add (m + n) := by
  obtain ⟨b, o, sp⟩ := a
  simp only at hs
  subst hs
  unfold Addr.add
  by_cases h1 : m = 0 <;> by_cases h2 : n = 0 <;> simp [h1, h2, Nat.add_assoc]
theorem add_spot (a : Addr) (hs : a.spot = none) (m : Nat) : (a.add m).spot = none := by unfold Addr.add; split <;> simp [hs]
theorem add_mk (g o n : Nat) : (⟨g, o, none⟩ : Addr).add n = ⟨g, o + n, none⟩ := by unfold Addr.add; split <;> simp_all

theorem cell_same {w w' : World} {a : Addr} (h : w'.heap[a.block]? = w.heap[a.block]?) : w'.cell? a = w.cell? a := World.cell?_of_block h

theorem Rd.mono {w w' : World} {I I' : Nat → Prop} {x : D} {v : Value} (h : Rd w I x v) (hI : ∀ b, I b → I' b) (hw : ∀ b, I b → w'.heap[b]? = w.heap[b]?) : Rd w' I' x v := by
  induction h with
  | v x => exact .v x
  | nil f A c => exact .nil f A c
  | l n f a c sz vs h0 hc hb hs hz hl hv h1 hr ih =>
    refine .l n f a c sz vs h0 hc (hI _ hb) hs hz hl (fun i j hi hj => ?_) h1 (fun i j hi hj => ih i j hi hj)
    have e := cell_same (w := w) (w' := w') (a := a.add (i * sz + j)) (by rw [add_block]; exact hw _ hb)
    rw [e]
    exact hv i j hi hj

inductive VR (ρ : Nat → Option Value) (w : World) (I : Nat → Prop) : LV → Value → Prop
  | bad (v : Value) : VR ρ w I .bad v
  | d {x : D} {v : Value} (h : Rd w I x v) : VR ρ w I (.d x) v
  | row {k : Nat} {v : Value} (h : ρ k = some v) (hv : ∃ A n c, v = .slice A n c) : VR ρ w I (.row k) v
  | ptr {k off g : Nat} (h : ρ k = some (.pointer (some ⟨g, 0, none⟩))) : VR ρ w I (.ptr k off) (.pointer (some ⟨g, off, none⟩))
  | eptr {k sz i off g n c : Nat} (h : ρ k = some (.slice (some ⟨g, 0, none⟩) n c)) : VR ρ w I (.eptr k sz i off) (.pointer (some ⟨g, i * sz + off, none⟩))
  | dptr {cs : List D} {a : Addr} (vs : Nat → Value) (hs : a.spot = none) (hI : I a.block) (hv : ∀ j, j < cs.length → w.cell? (a.add j) = some (vs j))
      (hr : ∀ j, j < cs.length → Rd w I (cs.getD j (.v undef)) (vs j)) : VR ρ w I (.dptr cs) (.pointer (some a))
  | agg {cs : List LV} {us : Array Value} (hl : us.size = cs.length) (h : ∀ j, j < cs.length → VR ρ w I (cs.getD j .bad) (us.getD j undef)) : VR ρ w I (.agg cs) (.agg us)
  | tup {cs : List LV} {us : Array Value} (hl : us.size = cs.length) (h : ∀ j, j < cs.length → VR ρ w I (cs.getD j .bad) (us.getD j undef)) : VR ρ w I (.tup cs) (.tuple us)
  | fn {f : FuncId} {caps : List LV} {us : Array Value} (hl : us.size = caps.length) (h : ∀ j, j < caps.length → VR ρ w I (caps.getD j .bad) (us.getD j undef)) :
      VR ρ w I (.fn f caps) (.func (.func f) #[] us)
  | mp {k g : Nat} (h : ρ k = some (.map (some g))) : VR ρ w I (.mp k) (.map (some g))
  | sub {k sz lo hi g n c off : Nat} (h : ρ k = some (.slice (some ⟨g, 0, none⟩) n c)) (h1 : lo ≤ hi) (h2 : hi ≤ n) (ho : lo < hi ∨ lo = 0 → off = lo * sz) : VR ρ w I (.sub k sz lo hi) (.slice (some ⟨g, off, none⟩) (hi - lo) (c - lo))
  | sub0 {k sz : Nat} (h : ρ k = some (.slice none 0 0)) : VR ρ w I (.sub k sz 0 0) (.slice none 0 0)
  | pptr {cs : List D} {a : Addr} {u : Value} (hs : a.spot = none) (hI : I a.block) (hc : w.cell? a = some u) (h : VR ρ w I (.dptr cs) u) : VR ρ w I (.pptr cs) (.pointer (some a))

/-- more is known -/
def Ext (ρ ρ' : Nat → Option Value) : Prop := ∀ k v, ρ k = some v → ρ' k = some v
theorem Ext.refl (ρ : Nat → Option Value) : Ext ρ ρ := fun _ _ h => h
theorem Ext.trans {a b c : Nat → Option Value} (h : Ext a b) (h' : Ext b c) : Ext a c := fun k v e => h' k v (h k v e)
theorem Ext.upd {ρ : Nat → Option Value} {k : Nat} (h : ρ k = none) (v : Value) : Ext ρ (upd ρ k (some v)) := fun i x e => by
  have : i ≠ k := by rintro rfl; simp [h] at e
  rw [upd_ne _ _ this]; exact e

theorem VR.mono {ρ ρ' : Nat → Option Value} {w w' : World} {I I' : Nat → Prop} {x : LV} {v : Value} (h : VR ρ w I x v) (hρ : Ext ρ ρ') (hI : ∀ b, I b → I' b) (hw : ∀ b, I b → w'.heap[b]? = w.heap[b]?) : VR ρ' w' I' x v := by
  induction h with
  | bad v => exact .bad v
  | d h => exact .d (h.mono hI hw)
  | row h hv => exact .row (hρ _ _ h) hv
  | ptr h => exact .ptr (hρ _ _ h)
  | eptr h => exact .eptr (hρ _ _ h)
  | dptr vs hs hb hv hr =>
    refine .dptr vs hs (hI _ hb) (fun j hj => ?_) (fun j hj => (hr j hj).mono hI hw)
    have e := cell_same (w := w) (w' := w') (a := Addr.add _ j) (by rw [add_block]; exact hw _ hb)
    rw [e]
    exact hv j hj
  | agg hl _ ih => exact .agg hl ih
  | tup hl _ ih => exact .tup hl ih
  | fn hl _ ih => exact .fn hl ih
  | mp h => exact .mp (hρ _ _ h)
  | sub h h1 h2 ho => exact .sub (hρ _ _ h) h1 h2 ho
  | sub0 h => exact .sub0 (hρ _ _ h)
  | pptr hs hb hc _ ih => exact .pptr hs (hI _ hb) (by rw [cell_same (hw _ hb)]; exact hc) ih

def blk : Value → Option Nat
  | .pointer (some a) => some a.block
  | .slice (some a) _ _ => some a.block
  | .map (some g) => some g
  | _ => none

/-- the cell at a place of a slice -/
def cellAt (w : World) (v : Value) (i : Nat) : Option Value := match v with
  | .slice (some a) _ _ => w.cell? (a.add i)
  | _ => none
/-- the blocks of a thing -/
def foot (w : World) (v : Value) (e : Ent) (g : Nat) : Prop := blk v = some g ∨ match e with
  | .nest _ _ _ n L f ov => ∃ i m h u, i < n ∧ nOf L f ov i = .own m h ∧ cellAt w v i = some u ∧ blk u = some g
  | _ => False
theorem foot_blk {w : World} {v : Value} {e : Ent} {g : Nat} (h : blk v = some g) : foot w v e g := .inl h
theorem cellAt_same {w w' : World} {v : Value} {i : Nat} (hw : ∀ g, blk v = some g → w'.heap[g]? = w.heap[g]?) : cellAt w' v i = cellAt w v i := by
  unfold cellAt
  split
  · rename_i a n c
    exact cell_same (by rw [add_block]; exact hw _ rfl)
  · rfl
theorem foot_same {w w' : World} {v : Value} {e : Ent} {g : Nat} (hw : ∀ g, blk v = some g → w'.heap[g]? = w.heap[g]?) (h : foot w' v e g) : foot w v e g := by
  rcases h with h | h
  · exact .inl h
  · refine .inr ?_
    cases e with
    | nest eo ei sz n L f ov =>
      obtain ⟨i, m, x, u, h1, h2, h3, h4⟩ := h
      exact ⟨i, m, x, u, h1, h2, by rw [← cellAt_same hw]; exact h3, h4⟩
    | _ => exact h.elim
def flat : Ent → Bool
  | .nest _ _ _ _ _ _ _ => false
  | _ => true
theorem foot_flat {w : World} {v : Value} {e : Ent} {g : Nat} (he : flat e = true) (h : foot w v e g) : blk v = some g := by
  rcases h with h | h
  · exact h
  · cases e <;> simp [flat] at he <;> exact h.elim

/-- what an element of a row of rows tells -/
def NEok (ρ : Nat → Option Value) (w : World) (I : Nat → Prop) (ei : TypeId) (sz : Nat) (u : Value) : NE → Prop
  | .own m f => ∃ ys, w.ownsRow 0 ei sz u m ys ∧ (∀ y ∈ ys, y.oneCell' = true) ∧ (∀ i, i < m → (f i).length = sz) ∧ ∀ i j, i < m → j < sz → Rd w I ((f i).getD j (.v undef)) (ys.getD (i * sz + j) undef)
  | .hole k => ρ k = some u
  | .dat x => Rd w I x u
  | .any => True

/-- a map from whole numbers to truth values -/
def keyIs (n : Int) (e : MapEntry) : Bool := match e.key with
  | .int _ m => m == n
  | _ => false
def valB (e : MapEntry) : Bool := match e.val with
  | .bool b => b
  | _ => false
def lookM : List MapEntry → Int → Bool
  | [], _ => false
  | e :: l, n => if keyIs n e = true then valB e else lookM l n
def MapIs (es : Array MapEntry) (clock : Nat) (f : Int → Bool) : Prop := (∀ e ∈ es.toList, ∃ n b, e.key = .int .i64 n ∧ e.val = .bool b) ∧ ∀ n, f n = lookM es.toList n

def ER (ρ : Nat → Option Value) (w : World) (I : Nat → Prop) (k : Nat) : Ent → Prop
  | .box t cs => ∃ g us, ρ k = some (.pointer (some ⟨g, 0, none⟩)) ∧ w.heap[g]? = some (.cells us t (0, 0)) ∧ us.size = cs.length ∧ ∀ j, j < cs.length → VR ρ w I (cs.getD j .bad) (us.getD j undef)
  | .row e sz n f => 0 < sz ∧ ∃ v xs, ρ k = some v ∧ w.ownsRow 0 e sz v n xs ∧ (∀ u ∈ xs, u.oneCell' = true) ∧ (∀ i, i < n → (f i).length = sz) ∧ ∀ i j, i < n → j < sz → Rd w I ((f i).getD j (.v undef)) (xs.getD (i * sz + j) undef)
  | .map t f => ∃ g es clock, ρ k = some (.map (some g)) ∧ w.heap[g]? = some (.map es clock) ∧ MapIs es clock f
  | .nest eo ei sz n L f ov => 0 < sz ∧ ∃ v xs, ρ k = some v ∧ w.ownsRow 0 eo 1 v n xs ∧ (∀ u ∈ xs, u.oneCell' = true) ∧ (∀ i, i < n → NEok ρ w I ei sz (xs.getD i undef) (nOf L f ov i)) ∧
      (∀ i j m m' h h' b, i < n → j < n → nOf L f ov i = .own m h → nOf L f ov j = .own m' h' → blk (xs.getD i undef) = some b → blk (xs.getD j undef) = some b → i = j) ∧
      (∀ i m h b, i < n → nOf L f ov i = .own m h → blk (xs.getD i undef) = some b → blk v ≠ some b)

theorem ER.named {ρ : Nat → Option Value} {w : World} {I : Nat → Prop} {k : Nat} {e : Ent} (h : ER ρ w I k e) : ∃ v, ρ k = some v := by
  cases e with
  | box t cs => obtain ⟨g, us, h1, _⟩ := h; exact ⟨_, h1⟩
  | row e sz n f => obtain ⟨_, v, xs, h1, _⟩ := h; exact ⟨_, h1⟩
  | map t f => obtain ⟨g, es, c, h1, _⟩ := h; exact ⟨_, h1⟩
  | nest eo ei sz n L f ov => obtain ⟨_, v, xs, h1, _⟩ := h; exact ⟨_, h1⟩

theorem ownsRow_same {w w' : World} {b : Nat} {e : TypeId} {sz n : Nat} {v : Value} {xs : List Value} (h : w.ownsRow b e sz v n xs) (hw : ∀ g, blk v = some g → w'.heap[g]? = w.heap[g]?) : w'.ownsRow b e sz v n xs := by
  obtain ⟨h1, h2⟩ := h
  refine ⟨h1, ?_⟩
  rcases h2 with h2 | ⟨g, cap, cur, hv, hg, hh, r⟩
  · exact .inl h2
  · exact .inr ⟨g, cap, cur, hv, hg, by rw [hw g (by rw [hv]; rfl)]; exact hh, r⟩

theorem ownsRow_cellAt {w : World} {b : Nat} {e : TypeId} {n : Nat} {v : Value} {xs : List Value} (h : w.ownsRow b e 1 v n xs) {i : Nat} (hi : i < n) : cellAt w v i = some (xs.getD i undef) := by
  have hx : xs[i]? = some (xs.getD i undef) := by
    have : i < xs.length := by rw [h.1]; omega
    simp [List.getD, List.getElem?_eq_getElem this]
  rcases h.2 with ⟨rfl, hn⟩ | ⟨g, cap, cur, rfl, _⟩
  · omega
  · exact h.cells (g := g) rfl i _ hx
theorem ER.mono {ρ ρ' : Nat → Option Value} {w w' : World} {I I' : Nat → Prop} {k : Nat} {e : Ent} (h : ER ρ w I k e) (hρ : Ext ρ ρ') (hI : ∀ b, I b → I' b) (hw : ∀ b, I b → w'.heap[b]? = w.heap[b]?)
    (ho : ∀ v g, ρ k = some v → foot w v e g → w'.heap[g]? = w.heap[g]?) : ER ρ' w' I' k e := by
  cases e with
  | box t cs =>
    obtain ⟨g, us, h1, h2, h3, h4⟩ := h
    exact ⟨g, us, hρ _ _ h1, by rw [ho _ g h1 (.inl rfl)]; exact h2, h3, fun j hj => (h4 j hj).mono hρ hI hw⟩
  | row e sz n f =>
    obtain ⟨h0, v, xs, h1, h2, h5, h3, h4⟩ := h
    exact ⟨h0, v, xs, hρ _ _ h1, ownsRow_same h2 (fun g hg => ho v g h1 (.inl hg)), h5, h3, fun i j hi hj => (h4 i j hi hj).mono hI hw⟩
  | map t f =>
    obtain ⟨g, es, c, h1, h2, h3⟩ := h
    exact ⟨g, es, c, hρ _ _ h1, by rw [ho _ g h1 (.inl rfl)]; exact h2, h3⟩
  | nest eo ei sz n L f ov =>
    obtain ⟨h0, v, xs, h1, h2, h3, h4, h5, h6⟩ := h
    refine ⟨h0, v, xs, hρ _ _ h1, ownsRow_same h2 (fun g hg => ho v g h1 (.inl hg)), h3, fun i hi => ?_, h5, h6⟩
    have h7 := h4 i hi
    cases hn : nOf L f ov i with
    | own m h =>
      rw [hn] at h7
      obtain ⟨ys, q1, q2, q3, q4⟩ := h7
      refine ⟨ys, ownsRow_same q1 (fun g hg => ho v g h1 (.inr ⟨i, m, h, _, hi, hn, ownsRow_cellAt h2 hi, hg⟩)), q2, q3, fun i j hi hj => (q4 i j hi hj).mono hI hw⟩
    | hole k' => rw [hn] at h7; exact hρ _ _ h7
    | dat x => rw [hn] at h7; exact Rd.mono h7 hI hw
    | any => trivial

/-- a cell that holds a whole number, or a value of an interface's type -/
def gkind : Bool → Value → Prop
  | false, v => ∃ m, v = .int .i64 m
  | true, v => ∃ te pe, v = .iface te pe
/-- the package-level variables hold what is known of them -/
def GlOK (I : Nat → Prop) (w : World) : Prop := (∀ g k zs, (g, k, zs) ∈ gtab → I g ∧ ∃ t fr, w.heap[g]? = some (.cells (zs.map (Value.int k)).toArray t fr)) ∧
  ∀ g b, (g, b) ∈ gcell → I g ∧ ∃ v, w.cell? ⟨g, 0, none⟩ = some v ∧ gkind b v
theorem GlOK.mono {I I' : Nat → Prop} {w w' : World} (h : GlOK I w) (hI : ∀ b, I b → I' b) (hw : ∀ b, I b → w'.heap[b]? = w.heap[b]?) : GlOK I' w' := ⟨fun g k zs hg =>
  ⟨hI _ (h.1 g k zs hg).1, by rw [hw g (h.1 g k zs hg).1]; exact (h.1 g k zs hg).2⟩, fun g b hg =>
  ⟨hI _ (h.2 g b hg).1, by rw [cell_same (w := w) (w' := w') (a := ⟨g, 0, none⟩) (hw g (h.2 g b hg).1)]; exact (h.2 g b hg).2⟩⟩
theorem GlOK.cell {I : Nat → Prop} {w : World} (h : GlOK I w) {g : Nat} {k : IntKind} {zs : List Int} (hg : (g, k, zs) ∈ gtab) (j : Nat) (hj : j < zs.length) : w.cell? ⟨g, j, none⟩ = some (.int k (zs.getD j 0)) := by
  obtain ⟨_, t, fr, hh⟩ := h.1 g k zs hg
  simp [World.cell?, hh, List.getD, hj]
theorem GlOK.one {I : Nat → Prop} {w : World} (h : GlOK I w) {g : Nat} {b : Bool} (hg : (g, b) ∈ gcell) : ∃ v, w.cell? ⟨g, 0, none⟩ = some v ∧ gkind b v := by
  exact (h.2 g b hg).2
/-- A symbolic state tells the truth of an activation and a world. `O`: which blocks may be written. -/
structure Rel (O : Nat → Prop) (nt : Nat) (ρ : Nat → Option Value) (I : Nat → Prop) (s : LS) (a : Act) (w : World) : Prop where
  fr : ∀ i, VR ρ w I (s.fr i) (a.tmps.getD i undef)
  hp : ∀ k e, s.hp k = some e → ER ρ w I k e
  ow : ∀ k e v g, s.hp k = some e → ρ k = some v → foot w v e g → ¬ I g ∧ O g ∧ g < w.heap.size
  ds : ∀ k k' e e' v v' g, s.hp k = some e → s.hp k' = some e' → ρ k = some v → ρ k' = some v' → foot w v e g → foot w v' e' g → k = k'
  lt : ∀ b, I b → b < w.heap.size
  df : a.defers = []
  sz : a.tmps.size = nt
  gl : GlOK I w

section
variable {O : Nat → Prop} {nt : Nat} {ρ : Nat → Option Value} {I : Nat → Prop} {s : LS} {a : Act} {w : World}

/-- The world turns where nothing that is told lies. -/
theorem Rel.world {w' : World} (h : Rel O nt ρ I s a w) (hs : w.heap.size ≤ w'.heap.size) (hw : ∀ b, (I b ∨ ∃ k e v, s.hp k = some e ∧ ρ k = some v ∧ foot w v e b) → w'.heap[b]? = w.heap[b]?) : Rel O nt ρ I s a w' :=
  ⟨fun i => (h.fr i).mono (Ext.refl _) (fun _ hb => hb) (fun b hb => hw b (.inl hb)),
   fun k e hk => (h.hp k e hk).mono (Ext.refl _) (fun _ hb => hb) (fun b hb => hw b (.inl hb)) (fun v g hv hg => hw g (.inr ⟨k, e, v, hk, hv, hg⟩)),
   fun k e v g h1 h2 h3 => by
     have h3 := foot_same (fun g hg => hw g (.inr ⟨k, e, v, h1, h2, .inl hg⟩)) h3
     exact ⟨(h.ow k e v g h1 h2 h3).1, (h.ow k e v g h1 h2 h3).2.1, Nat.lt_of_lt_of_le (h.ow k e v g h1 h2 h3).2.2 hs⟩,
   fun k k' e e' v v' g h1 h1' h2 h2' h3 h3' => h.ds k k' e e' v v' g h1 h1' h2 h2' (foot_same (fun g hg => hw g (.inr ⟨k, e, v, h1, h2, .inl hg⟩)) h3) (foot_same (fun g hg => hw g (.inr ⟨k', e', v', h1', h2', .inl hg⟩)) h3'), fun b hb => Nat.lt_of_lt_of_le (h.lt b hb) hs, h.df, h.sz, h.gl.mono (fun _ hb => hb) (fun b hb => hw b (.inl hb))⟩

theorem Rel.drew (h : Rel O nt ρ I s a w) : Rel O nt ρ I s a { w with drawn := w.drawn + 1 } := h.world (Nat.le_refl _) (fun _ _ => rfl)

theorem Rel.usedLt (h : Rel O nt ρ I s a w) {b : Nat} (hb : I b ∨ ∃ k e v, s.hp k = some e ∧ ρ k = some v ∧ foot w v e b) : b < w.heap.size := by
  rcases hb with hb | ⟨k, e, v, h1, h2, h3⟩
  · exact h.lt b hb
  · exact (h.ow k e v b h1 h2 h3).2.2

/-- More is known of the names; the frozen blocks may be more. -/
theorem Rel.more {ρ' : Nat → Option Value} {I' : Nat → Prop} (h : Rel O nt ρ I s a w) (hρ : Ext ρ ρ') (hI : ∀ b, I b → I' b) (hI' : ∀ b, I' b → b < w.heap.size)
    (hd : ∀ k e v g, s.hp k = some e → ρ k = some v → foot w v e g → ¬ I' g) : Rel O nt ρ' I' s a w := by
  have hk : ∀ k e v, s.hp k = some e → ρ' k = some v → ρ k = some v := by
    intro k e v h1 h2
    obtain ⟨u, h3⟩ := (h.hp k e h1).named
    rw [hρ _ _ h3] at h2; rw [h3]; exact h2
  exact ⟨fun i => (h.fr i).mono hρ hI (fun _ _ => rfl), fun k e h1 => (h.hp k e h1).mono hρ hI (fun _ _ => rfl) (fun _ _ _ _ => rfl),
    fun k e v g h1 h2 h3 => ⟨hd k e v g h1 (hk k e v h1 h2) h3, (h.ow k e v g h1 (hk k e v h1 h2) h3).2⟩,
    fun k k' e e' v v' g h1 h2 h3 h4 => h.ds k k' e e' v v' g h1 h2 (hk k e v h1 h3) (hk k' e' v' h2 h4), hI', h.df, h.sz, h.gl.mono hI (fun _ _ => rfl)⟩

def LS.put (s : LS) (dst : Option Tmp) (x : LV) : LS := match dst with
  | some d => { s with fr := upd s.fr d x }
  | none => s

theorem LS.put_nx (s : LS) (dst : Option Tmp) (x : LV) : (s.put dst x).nx = s.nx := by cases dst <;> rfl
theorem LS.put_lo (s : LS) (dst : Option Tmp) (x : LV) : (s.put dst x).lo = s.lo := by cases dst <;> rfl
theorem getD_set (us : Array Value) (d i : Nat) (v : Value) (hd : d < us.size) : (us.setIfInBounds d v).getD i undef = if i = d then v else us.getD i undef := by
  by_cases h : i = d
  · subst h
    simp [Array.getD, hd]
  · simp only [h, if_false]
    by_cases hi : i < us.size
    · simp [Array.getD, hi, Array.getElem_setIfInBounds, Ne.symm h]
    · simp [Array.getD, hi]

theorem Rel.put (h : Rel O nt ρ I s a w) {dst : Option Tmp} (hd : ∀ d, dst = some d → d < nt) {x : LV} {v : Value} (hx : VR ρ w I x v) : Rel O nt ρ I (s.put dst x) (a.put dst v) w := by
  cases dst with
  | none => exact h
  | some d =>
    refine ⟨fun i => ?_, h.hp, h.ow, h.ds, h.lt, h.df, by simp [Act.put, h.sz], h.gl⟩
    simp only [LS.put, Act.put]
    rw [getD_set _ _ _ _ (by rw [h.sz]; exact hd d rfl), upd_eq]
    split
    · exact hx
    · exact h.fr i
end

/-- One more thing is told. -/
theorem Rel.addEnt {O : Nat → Prop} {nt : Nat} {ρ : Nat → Option Value} {I : Nat → Prop} {s : LS} {a : Act} {w : World} (h : Rel O nt ρ I s a w) {k : Nat} (hk : ρ k = none) {e : Ent} {v : Value}
    (he : ER (upd ρ k (some v)) w I k e) (hg : ∀ g, foot w v e g → ¬ I g ∧ O g ∧ g < w.heap.size ∧ ∀ i e' v', s.hp i = some e' → ρ i = some v' → ¬ foot w v' e' g) :
    Rel O nt (upd ρ k (some v)) I { s with hp := upd s.hp k (some e) } a w := by
  have hE : Ext ρ (upd ρ k (some v)) := Ext.upd hk _
  refine ⟨fun i => (h.fr i).mono hE (fun _ hb => hb) (fun _ _ => rfl), fun i e' he' => ?_, fun i e' v' g he' hv hb => ?_, fun i i' e1 e2 v1 v2 g he1 he2 hv1 hv2 hg1 hg2 => ?_, h.lt, h.df, h.sz, h.gl⟩
  · by_cases hi : i = k
    · subst hi
      simp only [upd_same, Option.some.injEq] at he'
      subst he'
      exact he
    · simp only [upd_ne _ _ hi] at he'
      exact (h.hp i e' he').mono hE (fun _ hb => hb) (fun _ _ => rfl) (fun _ _ _ _ => rfl)
  · by_cases hi : i = k
    · subst hi
      simp only [upd_same] at hv he'
      obtain rfl := Option.some.inj hv
      obtain rfl := Option.some.inj he'
      exact ⟨(hg g hb).1, (hg g hb).2.1, (hg g hb).2.2.1⟩
    · simp only [upd_ne _ _ hi] at he' hv
      exact h.ow i e' v' g he' hv hb
  · by_cases hi : i = k <;> by_cases hi' : i' = k
    · rw [hi, hi']
    · subst hi
      simp only [upd_ne _ _ hi', upd_same] at he1 he2 hv2 hv1
      obtain rfl := Option.some.inj hv1
      obtain rfl := Option.some.inj he1
      exact absurd hg2 ((hg g hg1).2.2.2 i' e2 v2 he2 hv2)
    · subst hi'
      simp only [upd_ne _ _ hi, upd_same] at he1 he2 hv1 hv2
      obtain rfl := Option.some.inj hv2
      obtain rfl := Option.some.inj he2
      exact absurd hg1 ((hg g hg2).2.2.2 i e1 v1 he1 hv1)
    · simp only [upd_ne _ _ hi, upd_ne _ _ hi'] at he1 he2 hv1 hv2
      exact h.ds i i' e1 e2 v1 v2 g he1 he2 hv1 hv2 hg1 hg2

/-- A new block, and what is told of it. -/
theorem Rel.newEnt {O : Nat → Prop} {nt : Nat} {ρ : Nat → Option Value} {I : Nat → Prop} {s : LS} {a : Act} {w : World} (h : Rel O nt ρ I s a w) {k : Nat} (hk : ρ k = none) {o : Obj} {e : Ent} {v : Value}
    (hb : ∀ g, foot (w.alloc o) v e g → g = w.heap.size) (hO : O w.heap.size) (he : ER (upd ρ k (some v)) (w.alloc o) I k e) :
    Rel O nt (upd ρ k (some v)) I { s with hp := upd s.hp k (some e) } a (w.alloc o) := by
  have h' : Rel O nt ρ I s a (w.alloc o) := h.world (by simp) (fun b hb => Below.heap_alloc _ _ _ (h.usedLt hb))
  refine h'.addEnt hk he (fun g hg => ?_)
  obtain rfl := hb g hg
  refine ⟨fun hI => absurd (h.lt _ hI) (by omega), hO, by simp, fun i e' v' h1 h2 h3 => ?_⟩
  have h3 : foot w v' e' w.heap.size := foot_same (fun g hg => Below.heap_alloc _ _ _ (h.ow i e' v' g h1 h2 (.inl hg)).2.2) h3
  exact absurd (h.ow i e' v' _ h1 h2 h3).2.2 (by omega)

/-- Less is told of the memory. -/
theorem Rel.less {O : Nat → Prop} {nt : Nat} {ρ : Nat → Option Value} {I : Nat → Prop} {s : LS} {a : Act} {w : World} (h : Rel O nt ρ I s a w) {hp' : Nat → Option Ent} (hl : ∀ k e, hp' k = some e → s.hp k = some e) :
    Rel O nt ρ I { s with hp := hp' } a w :=
  ⟨h.fr, fun k e he => h.hp k e (hl k e he), fun k e v g he => h.ow k e v g (hl k e he), fun k k' e e' v v' g he he' => h.ds k k' e e' v v' g (hl k e he) (hl k' e' he'), h.lt, h.df, h.sz, h.gl⟩

/-- What is told of one thing turns with the world's block. -/
theorem Rel.setEnt {O : Nat → Prop} {nt : Nat} {ρ : Nat → Option Value} {I : Nat → Prop} {s : LS} {a : Act} {w w' : World} (h : Rel O nt ρ I s a w) {k g : Nat} {e e' : Ent} {v : Value} (hk : s.hp k = some e) (hv : ρ k = some v) (hg : blk v = some g)
    (hs : w'.heap.size = w.heap.size) (hw : ∀ b, b ≠ g → w'.heap[b]? = w.heap[b]?) (he : ER ρ w' I k e') (hf : ∀ b, foot w' v e' b → foot w v e b) : Rel O nt ρ I { s with hp := upd s.hp k (some e') } a w' := by
  have hIg := (h.ow k e v g hk hv (.inl hg)).1
  have hne : ∀ b, I b → b ≠ g := fun b hb hbg => hIg (hbg ▸ hb)
  have other : ∀ i e1 v1, i ≠ k → s.hp i = some e1 → ρ i = some v1 → ∀ g1, foot w v1 e1 g1 → g1 ≠ g := by
    rintro i e1 v1 hi he1 hv1 g1 hg1 rfl
    exact hi (h.ds i k e1 e v1 v g1 he1 hk hv1 hv hg1 (.inl hg))
  have back : ∀ i e1 v1 g1, upd s.hp k (some e') i = some e1 → ρ i = some v1 → foot w' v1 e1 g1 → ∃ e2, s.hp i = some e2 ∧ foot w v1 e2 g1 := by
    intro i e1 v1 g1 he1 hv1 hf1
    by_cases hi : i = k
    · subst hi
      simp only [upd_same, Option.some.injEq] at he1
      subst he1
      obtain rfl := Option.some.inj (hv.symm.trans hv1)
      exact ⟨e, hk, hf _ hf1⟩
    · simp only [upd_ne _ _ hi] at he1
      exact ⟨e1, he1, foot_same (fun g2 hg2 => hw g2 (other i e1 v1 hi he1 hv1 g2 (.inl hg2))) hf1⟩
  refine ⟨fun i => (h.fr i).mono (Ext.refl _) (fun _ hb => hb) (fun b hb => hw b (hne b hb)), fun i e1 he1 => ?_, fun i e1 v1 g1 he1 hv1 hg1 => ?_, fun i i' e1 e2 v1 v2 g1 he1 he2 hv1 hv2 hg1 hg2 => ?_, fun b hb => by rw [hs]; exact h.lt b hb, h.df, h.sz, h.gl.mono (fun _ hb => hb) (fun b hb => hw b (hne b hb))⟩
  · by_cases hi : i = k
    · subst hi
      simp only [upd_same, Option.some.injEq] at he1
      subst he1
      exact he
    · simp only [upd_ne _ _ hi] at he1
      exact (h.hp i e1 he1).mono (Ext.refl _) (fun _ hb => hb) (fun b hb => hw b (hne b hb)) (fun v1 g1 hv1 hg1 => hw g1 (other i e1 v1 hi he1 hv1 g1 hg1))
  · obtain ⟨e2, h2, h3⟩ := back i e1 v1 g1 he1 hv1 hg1
    rw [hs]
    exact h.ow i e2 v1 g1 h2 hv1 h3
  · obtain ⟨e3, h3, h4⟩ := back i e1 v1 g1 he1 hv1 hg1
    obtain ⟨e4, h5, h6⟩ := back i' e2 v2 g1 he2 hv2 hg2
    exact h.ds i i' e3 e4 v1 v2 g1 h3 h5 hv1 hv2 h4 h6

end Go.Proofs.YtojaakpnpdnbhaaGreatDoor.L
