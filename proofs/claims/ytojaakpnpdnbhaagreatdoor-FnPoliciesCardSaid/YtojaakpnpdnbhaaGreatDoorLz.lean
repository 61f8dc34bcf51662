/- Maps from whole numbers to truth values; rows of rows; parts of own rows: what operations do with them. -/
import Derived.Test.YtojaakpnpdnbhaaGreatDoorLh
import Derived.MapKept
import Derived.Laws.BytesString
import Derived.WideLaws
set_option linter.unusedVariables false
set_option linter.unusedSimpArgs false
namespace Go.Proofs.YtojaakpnpdnbhaaGreatDoor.L
open Go.RowKit

/-- a map's type -/
def MapT (P : Program) (t : TypeId) : Prop := ∃ kt et i, P.underlying t = some (.map kt et) ∧ P.underlying kt = some (.int .i64) ∧ P.info? et = some i ∧ i.zero = some (.bool false)

def lookGl : List (Nat × IntKind × List Int) → Nat → Option (IntKind × List Int)
  | [], _ => none
  | (g, vs) :: r, k => bif Nat.beq k g then some vs else lookGl r k
theorem lookGl_mem : ∀ {l : List (Nat × IntKind × List Int)} {k : Nat} {vs : IntKind × List Int}, lookGl l k = some vs → (k, vs) ∈ l
  | [], k, vs, h => by simp [lookGl] at h
  | (g, us) :: r, k, vs, h => by
    simp only [lookGl] at h
    cases hb : Nat.beq k g with
    | true =>
      obtain rfl : k = g := by simpa using hb
      rw [hb, cond_true] at h
      obtain rfl := Option.some.inj h
      exact .head _
    | false =>
      rw [hb, cond_false] at h
      exact .tail _ (lookGl_mem h)
/-- an array's type; from bytes to a text -/
def ArrT (P : Program) (t : TypeId) (n : Nat) : Prop := ∃ e i, P.underlying t = some (.array n e) ∧ P.info? e = some i ∧ i.size = 1
def StrT (P : Program) (src dst : TypeId) : Prop := ∃ e, P.underlying src = some (.slice e) ∧ P.underlying e = some (.int .u8) ∧ P.underlying dst = some .string
/-- an interface's type -/
def IfT (P : Program) (t : TypeId) : Prop := P.underlying t = some (.interface (P.methodsAt t))
def byteN : List D → Int
  | [.v (.int .u8 n)] => n
  | _ => 0
def bytesS (ns : List Int) : ByteArray := ns.foldl (fun r n => r.push (UInt8.ofNat n.toNat)) ByteArray.empty
def opM (P : Program) (kb : Nat) (o : Oper) (s : LS) : Option (Prop × LS) := match o.op with
  | .indexAddr t (.global g) y => match lookGl gtab g with
    | some (ki, zs) => match leval s y with
      | .d (.v (.int _ i)) => some (ArrT P t zs.length ∧ 0 ≤ i ∧ i < (zs.length : Int), s.put o.dst (.dptr [.v (.int ki (zs.getD i.toNat 0))]))
      | _ => none
    | none => none
  | .convert src dst x => match leval s x with
    | .row k => match s.hp k with
      | some (.row _ _ n f) => some (StrT P src dst ∧ 0 < n ∧ ∀ i, i < n → f i = [.v (.int .u8 (byteN (f i)))], s.put o.dst (.d (.v (.string (bytesS ((List.range n).map fun i => byteN (f i)))))))
      | _ => none
    | _ => none
  | .makeMap t none => some (True, { s with hp := upd s.hp kb (some (.map t fun _ => false)) }.put o.dst (.mp kb))
  | .lookup t x y false => match leval s x, leval s y with
    | .mp k, .d (.v (.int .i64 n)) => match s.hp k with
      | some (.map _ f) => some (MapT P t, s.put o.dst (.d (.v (.bool (f n)))))
      | _ => none
    | _, _ => none
  | .mapUpdate t m x y => match leval s m, leval s x, leval s y with
    | .mp k, .d (.v (.int .i64 n)), .d (.v (.bool b)) => match s.hp k with
      | some (.map t' f) => some (MapT P t, { s with hp := upd s.hp k (some (.map t' fun i => if i = n then b else f i)) }.put o.dst .bad)
      | _ => none
    | _, _, _ => none
  | .binOp .neq t x (.const .nilIface) _ => match leval s x with
    | .d (.v (.iface u v)) => some (IfT P t, s.put o.dst (.d (.v (.bool true))))
    | .d (.v .nilIface) => some (IfT P t, s.put o.dst (.d (.v (.bool false))))
    | _ => none
  | _ => none

theorem findNow_int {n : Int} : ∀ (l : List MapEntry) (i : Nat), (∀ e ∈ l, ∃ m b, e.key = .int .i64 m ∧ e.val = .bool b) →
    (Instr.findNow (.int .i64) (.int .i64 n) l i = some none ∧ (∀ e ∈ l, keyIs n e = false)) ∨
    ∃ j e, Instr.findNow (.int .i64) (.int .i64 n) l i = some (some (i + j, e.val)) ∧ l[j]? = some e ∧ e.key = .int .i64 n ∧ (∀ k e', k < j → l[k]? = some e' → keyIs n e' = false)
  | [], _, _ => .inl ⟨rfl, by simp⟩
  | e :: l, i, h => by
    obtain ⟨m, b, hk, hv⟩ := h e (.head _)
    by_cases hm : n = m
    · subst hm
      exact .inr ⟨0, e, by simp [Instr.findNow, Instr.sameNow, hk], rfl, hk, fun k e' hk => absurd hk (Nat.not_lt_zero _)⟩
    · have hne : keyIs n e = false := by simp [keyIs, hk, Ne.symm hm]
      have hnm : (n == m) = false := by simp [hm]
      rcases findNow_int (n := n) l (i + 1) (fun x hx => h x (.tail _ hx)) with ⟨h1, h2⟩ | ⟨j, e', h1, h2, h3, h4⟩
      · exact .inl ⟨by simp [Instr.findNow, Instr.sameNow, hk, hnm, h1], fun x hx => by
          cases hx with
          | head => exact hne
          | tail _ hx => exact h2 x hx⟩
      · refine .inr ⟨j + 1, e', by simp [Instr.findNow, Instr.sameNow, hk, hnm, h1]; omega, by simpa using h2, h3, fun k e2 hk2 he2 => ?_⟩
        cases k with
        | zero => simp only [List.getElem?_cons_zero, Option.some.injEq] at he2; subst he2; exact hne
        | succ k => exact h4 k e2 (by omega) (by simpa using he2)
theorem lookM_none {n : Int} : ∀ {l : List MapEntry}, (∀ e ∈ l, keyIs n e = false) → lookM l n = false
  | [], _ => rfl
  | e :: l, h => by simp [lookM, h e (.head _), lookM_none (fun x hx => h x (.tail _ hx))]
theorem lookM_at {n : Int} {e : MapEntry} (hk : e.key = .int .i64 n) : ∀ {l : List MapEntry} {j : Nat}, l[j]? = some e → (∀ k e', k < j → l[k]? = some e' → keyIs n e' = false) → lookM l n = valB e
  | [], j, h, _ => by simp at h
  | x :: l, 0, h, _ => by
    simp only [List.getElem?_cons_zero, Option.some.injEq] at h
    subst h
    simp [lookM, keyIs, hk]
  | x :: l, j + 1, h, h2 => by
    have := h2 0 x (by omega) rfl
    simp only [lookM, this]
    exact lookM_at hk (by simpa using h) (fun k e' hkj he => h2 (k + 1) e' (by omega) (by simpa using he))
theorem lookM_push {n m : Int} {b : Bool} {c : Nat} : ∀ {l : List MapEntry}, (∀ e ∈ l, keyIs n e = false) → lookM (l ++ [⟨.int .i64 n, .bool b, c⟩]) m = if m = n then b else lookM l m
  | [], _ => by
    by_cases h : m = n
    · simp [lookM, keyIs, valB, h]
    · simp [lookM, keyIs, h, Ne.symm h]
  | e :: l, h => by
    have ih := lookM_push (m := m) (b := b) (c := c) (fun x hx => h x (.tail _ hx))
    simp only [List.cons_append, lookM, ih]
    by_cases hm : m = n
    · subst hm; simp [h e (.head _)]
    · simp [hm]
theorem lookM_modify {n m : Int} {b : Bool} {e : MapEntry} (hk : e.key = .int .i64 n) : ∀ {l : List MapEntry} {j : Nat}, l[j]? = some e → (∀ k e', k < j → l[k]? = some e' → keyIs n e' = false) →
    lookM (l.modify j fun e => { e with key := .int .i64 n, val := .bool b }) m = if m = n then b else lookM l m
  | [], j, h, _ => by simp at h
  | x :: l, 0, h, _ => by
    simp only [List.getElem?_cons_zero, Option.some.injEq] at h
    subst h
    by_cases hm : m = n
    · simp [lookM, keyIs, valB, hm]
    · simp [lookM, keyIs, hk, hm, Ne.symm hm]
  | x :: l, j + 1, h, h2 => by
    have h0 := h2 0 x (by omega) rfl
    have ih := lookM_modify (m := m) (b := b) hk (l := l) (j := j) (by simpa using h) (fun k e' hkj he => h2 (k + 1) e' (by omega) (by simpa using he))
    simp only [List.modify_succ_cons, lookM, ih]
    by_cases hm : m = n
    · subst hm; simp [h0]
    · simp [hm]

section
variable {P : Program} {T : TT} {O : Nat → Prop} {nt : Nat} {ρ : Nat → Option Value} {I : Nat → Prop} {s : LS} {a : Act} {w : World} {kb : Nat} {o : Oper} {p : Prop} {s' : LS}

theorem opM_sound (h : opM P kb o s = some (p, s')) (hp : p) (hR : Rel O nt ρ I s a w) (hd : ∀ d, o.dst = some d → d < nt) (hkb : ρ kb = none) (hO : ∀ g, w.heap.size ≤ g → O g) : Does P O nt ρ I kb o s s' a w := by
  unfold opM at h
  split at h <;> (try (simp at h; done))
  · rename_i t g y ho
    have hy := leval_sound hR y
    split at h <;> (try (simp at h; done))
    rename_i ki zs hvs
    split at h <;> (try (simp at h; done))
    rename_i k i hly
    simp only [Option.some.injEq, Prod.mk.injEq] at h
    obtain ⟨rfl, rfl⟩ := h
    obtain ⟨⟨e, ie, hu, hie, hsz⟩, h0, h1⟩ := hp
    rw [hly] at hy
    have hy := VR.atom hy
    have hI := (hR.gl.1 g ki zs (lookGl_mem hvs)).1
    have hc := fun j hj => hR.gl.cell (lookGl_mem hvs) j hj
    have hgl : a.eval (.global g) = .pointer (some ⟨g, 0, none⟩) := rfl
    have hrun : (execOp a.eval o).run P w = .ok (.value (.pointer (some ⟨g, i.toNat, none⟩))) w := by
      have e1 : P.elem t = e := by simp [Program.elem, hu]
      have e2 : P.arrayLen t = zs.length := by simp [Program.arrayLen, hu]
      have hu' : P.underlying t = some (.array (P.arrayLen t) (P.elem t)) := by rw [e1, e2]; exact hu
      have h3 := run_indexAt_array (P := P) (w := w) t ⟨g, 0, none⟩ k i hu'
      rw [e1, e2, if_pos ⟨h0, h1⟩] at h3
      simp only [execOp, ho, hy, hgl, h3, run_sizeOf' hie, hsz, Sem.run_bind, Result.andThen_ok, Sem.run_pure, Nat.mul_one, Addr.add_lit]
      simp [Result.andThen_ok, add_mk]
    refine Does.value hR hd hrun (.dptr (fun _ => .int ki (zs.getD i.toNat 0)) rfl hI (fun j hj => ?_) (fun j hj => ?_))
    · obtain rfl : j = 0 := by simpa using hj
      have := hc i.toNat (by omega)
      simpa [add_mk] using this
    · obtain rfl : j = 0 := by simpa using hj
      exact .v _
  · rename_i src dst x ho
    have hx := leval_sound hR x
    split at h <;> (try (simp at h; done))
    rename_i k hlx
    split at h <;> (try (simp at h; done))
    rename_i e sz n f hk
    simp only [Option.some.injEq, Prod.mk.injEq] at h
    obtain ⟨rfl, rfl⟩ := h
    obtain ⟨⟨e2, hs, he, hdst⟩, hn, hb⟩ := hp
    rw [hlx] at hx
    obtain ⟨h0, u, xs, h2, h3, h4, h5, h6⟩ := hR.hp k _ hk
    generalize hvx : a.eval x = vx at hx
    cases hx with
    | row hρ hv =>
      obtain rfl := Option.some.inj (h2.symm.trans hρ)
      have hsz : sz = 1 := by rw [← h5 0 hn, hb 0 hn]; rfl
      subst hsz
      have hxl : xs.length = n := by have := h3.1; omega
      rcases h3.2 with ⟨rfl, rfl⟩ | ⟨g, cap, cur, rfl, _⟩
      · omega
      · have hxs : xs = ((List.range n).map fun i => byteN (f i)).map (Value.int .u8) := by
          refine List.ext_getElem (by simp [hxl]) fun i hi1 hi2 => ?_
          have hi : i < n := by omega
          have h7 := h6 i 0 hi (by omega)
          rw [hb i hi, Nat.mul_one, Nat.add_zero] at h7
          have h8 : xs.getD i undef = .int .u8 (byteN (f i)) := by
            generalize xs.getD i undef = z at h7
            cases h7
            rfl
          simp only [List.getElem_map, List.getElem_range]
          rw [← h8]
          simp [List.getD, List.getElem?_eq_getElem hi1]
        refine Does.value hR hd ?_ (.d (.v _))
        have hld := run_loadCells_list (P := P) w ⟨g, 0, none⟩ xs (fun j v hj => h3.cells (g := g) rfl j v hj)
        rw [hxl, hxs] at hld
        have hrun := run_bytesToString w ⟨g, 0, none⟩ n cap _ hld
        simp only [execOp, ho, hvx, run_convert_bytes_string w src dst e2 _ _ _ hs he hdst, hrun, Sem.run_bind, Result.andThen_ok]
        rfl
  · rename_i t ho
    simp only [Option.some.injEq, Prod.mk.injEq] at h
    obtain ⟨rfl, rfl⟩ := h
    refine Does.made hR hd hkb hO (ob := .map #[] 0) (v := .map (some w.heap.size)) ?_ rfl (u := .map (some w.heap.size)) rfl ⟨w.heap.size, #[], 0, by rw [upd_same], heap_alloc_new w _, by simp, fun n => rfl⟩ (.mp (by rw [upd_same]))
    simp only [execOp, ho, Option.map_none, Sem.run_bind]
    rfl
  · rename_i t x y ho
    have hx := leval_sound hR x
    have hy := leval_sound hR y
    split at h <;> (try (simp at h; done))
    rename_i k n hlx hly
    split at h <;> (try (simp at h; done))
    rename_i t' f hk
    simp only [Option.some.injEq, Prod.mk.injEq] at h
    obtain ⟨rfl, rfl⟩ := h
    obtain ⟨kt, et, i, hm, hkt, hi, hz⟩ := hp
    rw [hlx] at hx
    rw [hly] at hy
    have hy := VR.atom hy
    obtain ⟨g, es, clock, hρ, hg, hmi, hfi⟩ := hR.hp k _ hk
    generalize hvx : a.eval x = vx at hx
    cases hx with
    | @mp _ g' hρ' =>
      rw [hρ] at hρ'
      simp only [Option.some.injEq, Value.map.injEq] at hρ'
      subst hρ'
      refine Does.value hR hd (v := .bool (f n)) ?_ (.d (.v _))
      have hck : (Instr.checkKey es.isEmpty 10000 kt (.int .i64 n)).run P w = .ok () w := MapKept.run_checkKey hkt (show MapKept.IsKey (.int .i64) (.int .i64 n) from rfl) _ 9999
      have hfin : (Instr.lookup t (.map (some g)) (.int .i64 n) false).run P w = .ok (.bool (f n)) w := by
        rcases findNow_int (n := n) es.toList 0 hmi with ⟨h1, h2⟩ | ⟨j, e, h1, h2, h3, h4⟩
        · have e1 : f n = false := by rw [hfi, lookM_none h2]
          simp [Instr.lookup, run_underlying hm, MapKept.run_getObj_map hg, hck, MapKept.run_findKey hkt h1, run_zero hi hz, Result.andThen, e1]
        · have e1 : f n = valB e := by rw [hfi, lookM_at h3 h2 h4]
          obtain ⟨m', b', _, hb'⟩ := hmi e (List.mem_of_getElem? h2)
          simp [Instr.lookup, run_underlying hm, MapKept.run_getObj_map hg, hck, MapKept.run_findKey hkt h1, Result.andThen, e1, valB, hb']
      simp only [execOp, ho, hvx, hy, Sem.run_bind, hfin, Result.andThen_ok]
      rfl
  · rename_i t x y z ho
    have hx := leval_sound hR x
    have hy := leval_sound hR y
    have hz := leval_sound hR z
    split at h <;> (try (simp at h; done))
    rename_i k n b hlx hly hlz
    split at h <;> (try (simp at h; done))
    rename_i t' f hk
    simp only [Option.some.injEq, Prod.mk.injEq] at h
    obtain ⟨rfl, rfl⟩ := h
    obtain ⟨kt, et, i, hm, hkt, hi, hzz⟩ := hp
    rw [hlx] at hx
    rw [hly] at hy
    rw [hlz] at hz
    have hy := VR.atom hy
    have hz := VR.atom hz
    obtain ⟨g, es, clock, hρ, hg, hmi, hfi⟩ := hR.hp k _ hk
    generalize hvx : a.eval x = vx at hx
    cases hx with
    | @mp _ g' hρ' =>
      rw [hρ] at hρ'
      simp only [Option.some.injEq, Value.map.injEq] at hρ'
      subst hρ'
      have hck : (Instr.checkKey false 10000 kt (.int .i64 n)).run P w = .ok () w := MapKept.run_checkKey hkt (show MapKept.IsKey (.int .i64) (.int .i64 n) from rfl) _ 9999
      have hfin : ∃ es' clock', (Instr.mapUpdate t (.map (some g)) (.int .i64 n) (.bool b)).run P w = .ok () { w with heap := w.heap.setIfInBounds g (.map es' clock') } ∧ MapIs es' clock' fun i => if i = n then b else f i := by
        rcases findNow_int (n := n) es.toList 0 hmi with ⟨h1, h2⟩ | ⟨j, e, h1, h2, h3, h4⟩
        · refine ⟨es.push ⟨.int .i64 n, .bool b, clock⟩, clock + 1, ?_, fun e he => ?_, fun m => ?_⟩
          · simp [Instr.mapUpdate, run_underlying hm, MapKept.run_getObj_map hg, hck, MapKept.run_findKey hkt h1, MapKept.run_setObj_map _ hg, Result.andThen]
          · simp only [Array.toList_push, List.mem_append, List.mem_singleton] at he
            rcases he with he | rfl
            · exact hmi e he
            · exact ⟨_, _, rfl, rfl⟩
          · simp only [Array.toList_push, lookM_push h2, hfi]
        · have hj : es[j]? = some e := by simpa using h2
          refine ⟨es.modify j fun e => { e with key := .int .i64 n, val := .bool b }, clock, ?_, fun e' he => ?_, fun m => ?_⟩
          · have hks := MapKept.run_keyThatStays (P := P) (w := w) (d := .int .i64) (k := .int .i64 n) (show MapKept.IsKey (.int .i64) (.int .i64 n) from rfl)
            simp [Instr.mapUpdate, run_underlying hm, MapKept.run_getObj_map hg, hck, MapKept.run_findKey hkt h1, hj, h3, hks, MapKept.run_setObj_map _ hg, Result.andThen]
          · obtain ⟨q, hq, rfl⟩ := List.getElem_of_mem he
            simp only [Array.getElem_toList, Array.getElem_modify]
            split
            · exact ⟨_, _, rfl, rfl⟩
            · exact hmi _ (by simp)
          · simp only [Array.toList_modify, lookM_modify h3 h2 h4, hfi]
      obtain ⟨es', clock', hrun, hmap⟩ := hfin
      have hOw := hR.ow k _ _ g hk hρ (.inl rfl)
      have hlt := hOw.2.2
      have hoth : ∀ b, b ≠ g → (w.heap.setIfInBounds g (.map es' clock'))[b]? = w.heap[b]? := (MapKept.heap_set hg).2
      refine ⟨LS.put_nx _ _ _, LS.put_lo _ _ _, .skip, undef, { w with heap := w.heap.setIfInBounds g (.map es' clock') }, ρ, I, ?_, .inr ⟨rfl, rfl⟩, ?_, Ext.refl _, fun _ _ => rfl, fun _ hb => hb, fun _ hb => .inl hb, fun b' hb => hoth b' (fun e => hOw.1 (e ▸ hb)),
        ⟨rfl, rfl, rfl, by simp, fun b' hb _ => hoth b' (fun e => hb (e ▸ hOw.2.1))⟩⟩
      · simp only [execOp, ho, hvx, hy, hz, Sem.run_bind, hrun, Result.andThen_ok]
        rfl
      · refine Rel.put ?_ hd (.bad _)
        refine hR.setEnt hk hρ rfl (by simp) hoth ⟨g, es', clock', hρ, (MapKept.heap_set hg).1, hmap⟩ (fun b' hb => .inl (foot_flat rfl hb))
  · rename_i t x ty ho
    have hx := leval_sound hR x
    split at h <;> (try (simp at h; done))
    · rename_i u v hlx
      simp only [Option.some.injEq, Prod.mk.injEq] at h
      obtain ⟨rfl, rfl⟩ := h
      rw [hlx] at hx
      have hx := VR.atom hx
      have hrun : (execOp a.eval o).run P w = .ok (.value (.bool true)) w := by
        have e1 := run_equal_held_nil (P := P) w t u v hp
        have e2 : a.eval (.const .nilIface) = .nilIface := rfl
        simp only [execOp, ho, hx, e2]
        simp [eqGuard, binOp, e1, Result.andThen_ok]
      exact Does.value hR hd hrun (.d (.v _))
    · rename_i hlx
      simp only [Option.some.injEq, Prod.mk.injEq] at h
      obtain ⟨rfl, rfl⟩ := h
      rw [hlx] at hx
      have hx := VR.atom hx
      have hrun : (execOp a.eval o).run P w = .ok (.value (.bool false)) w := by
        have e1 := run_equal_nil_nil (P := P) w t hp
        have e2 : a.eval (.const .nilIface) = .nilIface := rfl
        simp only [execOp, ho, hx, e2]
        simp [eqGuard, binOp, e1, Result.andThen_ok]
      exact Does.value hR hd hrun (.d (.v _))

/-! ## rows of rows -/
theorem NEok.mono {ρ ρ' : Nat → Option Value} {w w' : World} {I I' : Nat → Prop} {ei : TypeId} {sz : Nat} {u : Value} {x : NE} (h : NEok ρ w I ei sz u x) (hρ : Ext ρ ρ') (hI : ∀ b, I b → I' b) (hw : ∀ b, I b → w'.heap[b]? = w.heap[b]?)
    (ho : ∀ m f g, x = .own m f → blk u = some g → w'.heap[g]? = w.heap[g]?) : NEok ρ' w' I' ei sz u x := by
  cases x with
  | own m f =>
    obtain ⟨ys, q1, q2, q3, q4⟩ := h
    exact ⟨ys, ownsRow_same q1 (fun g hg => ho m f g rfl hg), q2, q3, fun i j hi hj => (q4 i j hi hj).mono hI hw⟩
  | hole k => exact hρ _ _ h
  | dat x => exact Rd.mono h hI hw
  | any => trivial

theorem nOf_cons (L : Nat → Nat) (f : Nat → Nat → List D) (ov : List (Nat × NE)) (i j : Nat) (x : NE) : nOf L f ((i, x) :: ov) j = if j = i then x else nOf L f ov j := by
  unfold nOf
  simp only [lookN]
  by_cases h : j = i
  · subst h; simp [Nat.beq_refl]
  · have : Nat.beq j i = false := by rw [← Bool.not_eq_true, Nat.beq_eq]; exact h
    simp [this, h]

/-- One thing becomes two. -/
theorem Rel.split (h : Rel O nt ρ I s a w) {k : Nat} {e e1 e2 : Ent} {v u : Value} (hk : s.hp k = some e) (hv : ρ k = some v) (hkb : ρ kb = none) (h1 : ER (upd ρ kb (some u)) w I k e1) (h2 : ER (upd ρ kb (some u)) w I kb e2)
    (f1 : ∀ g, foot w v e1 g → foot w v e g) (f2 : ∀ g, foot w u e2 g → foot w v e g) (f3 : ∀ g, foot w v e1 g → ¬ foot w u e2 g) :
    Rel O nt (upd ρ kb (some u)) I { s with hp := upd (upd s.hp k (some e1)) kb (some e2) } a w := by
  have hE : Ext ρ (upd ρ kb (some u)) := Ext.upd hkb _
  have hne : k ≠ kb := by rintro rfl; rw [hkb] at hv; simp at hv
  have back : ∀ j e' v' g, upd (upd s.hp k (some e1)) kb (some e2) j = some e' → upd ρ kb (some u) j = some v' → foot w v' e' g →
      ∃ e0 v0, s.hp (if j = kb then k else j) = some e0 ∧ ρ (if j = kb then k else j) = some v0 ∧ foot w v0 e0 g ∧ (j = k → foot w v e1 g) ∧ (j = kb → foot w u e2 g) := by
    intro j e' v' g he hv' hf
    by_cases hj : j = kb
    · subst hj
      simp only [upd_same, Option.some.injEq] at he hv'
      subst he; subst hv'
      exact ⟨e, v, by rw [if_pos rfl]; exact hk, by rw [if_pos rfl]; exact hv, f2 g hf, fun e => absurd e.symm hne, fun _ => hf⟩
    · simp only [upd_ne _ _ hj] at he hv'
      rw [if_neg hj]
      by_cases hjk : j = k
      · subst hjk
        simp only [upd_same, Option.some.injEq] at he
        subst he
        obtain rfl := Option.some.inj (hv.symm.trans hv')
        exact ⟨e, v, hk, hv, f1 g hf, fun _ => hf, fun e => absurd e hj⟩
      · simp only [upd_ne _ _ hjk] at he
        exact ⟨e', v', he, hv', hf, fun e => absurd e hjk, fun e => absurd e hj⟩
  refine ⟨fun i => (h.fr i).mono hE (fun _ hb => hb) (fun _ _ => rfl), fun j e' he => ?_, fun j e' v' g he hv' hf => ?_, fun j j' e' e'' v' v'' g he he' hv' hv'' hf hf' => ?_, h.lt, h.df, h.sz, h.gl⟩
  · by_cases hj : j = kb
    · subst hj
      simp only [upd_same, Option.some.injEq] at he
      subst he
      exact h2
    · simp only [upd_ne _ _ hj] at he
      by_cases hjk : j = k
      · subst hjk
        simp only [upd_same, Option.some.injEq] at he
        subst he
        exact h1
      · simp only [upd_ne _ _ hjk] at he
        exact (h.hp j e' he).mono hE (fun _ hb => hb) (fun _ _ => rfl) (fun _ _ _ _ => rfl)
  · obtain ⟨e0, v0, q1, q2, q3, _⟩ := back j e' v' g he hv' hf
    exact h.ow _ e0 v0 g q1 q2 q3
  · obtain ⟨e0, v0, q1, q2, q3, q4, q5⟩ := back j e' v' g he hv' hf
    obtain ⟨e3, v3, r1, r2, r3, r4, r5⟩ := back j' e'' v'' g he' hv'' hf'
    have hh := h.ds _ _ e0 e3 v0 v3 g q1 r1 q2 r2 q3 r3
    by_cases hj : j = kb <;> by_cases hj' : j' = kb
    · rw [hj, hj']
    · rw [if_pos hj, if_neg hj'] at hh
      exact absurd (q5 hj) (f3 g (r4 hh.symm))
    · rw [if_neg hj, if_pos hj'] at hh
      exact absurd (r5 hj') (f3 g (q4 hh))
    · rwa [if_neg hj, if_neg hj'] at hh

def opR (T : TT) (kb : Nat) (o : Oper) (s : LS) : Option (Prop × LS) := match o.op with
  | .load t x => match leval s x with
    | .eptr k sz1 i off => match s.hp k with
      | some (.nest eo ei sz n L f ov) => bif Nat.beq sz1 1 && Nat.beq off 0 then (match T t with
        | some ti => match ti.k with
          | .slice _ => match nOf L f ov i with
            | .own m h => some (i < n, { s with hp := upd (upd s.hp k (some (.nest eo ei sz n L f ((i, .hole kb) :: ov)))) kb (some (.row ei sz m h)) }.put o.dst (.row kb))
            | .hole k' => match s.hp k' with
              | some (.row _ _ _ _) => some (i < n, s.put o.dst (.row k'))
              | _ => none
            | .dat x => some (i < n, s.put o.dst (.d x))
            | .any => none
          | _ => none
        | none => none) else none
      | _ => none
    | _ => none
  | .store t x y => match leval s x with
    | .eptr k sz1 i off => match s.hp k with
      | some (.nest eo ei sz n L f ov) => bif Nat.beq sz1 1 && Nat.beq off 0 then (match T t with
        | some ti => bif Nat.beq ti.size 1 then (match leval s y with
          | .row k' => match s.hp k' with
            | some (.row ei' sz' _ _) => bif Nat.beq ei ei' && Nat.beq sz sz' then some (i < n, { s with hp := upd s.hp k (some (.nest eo ei sz n L f ((i, .hole k') :: ov))) }.put o.dst .bad) else none
            | _ => none
          | .d x => bif okCell (.d x) then some (i < n, { s with hp := upd s.hp k (some (.nest eo ei sz n L f ((i, .dat x) :: ov))) }.put o.dst .bad) else none
          | _ => none) else none
        | none => none) else none
      | _ => none
    | _ => none
  | .indexAddr t x y => match leval s x with
    | .row k => match s.hp k with
      | some (.nest eo ei sz n L f ov) => match leval s y with
        | .d (.v (.int _ i)) => match T t with
          | some ti => match ti.k with
            | .slice e => match T e with
              | some te => bif Nat.beq te.size 1 then some (0 ≤ i ∧ i < (n : Int), s.put o.dst (.eptr k 1 i.toNat 0)) else none
              | none => none
            | _ => none
          | none => none
        | _ => none
      | _ => none
    | _ => none
  | .makeSlice t x y => match T t with
    | some ti => match ti.k with
      | .slice e => match T e with
        | some te => match te.k with
          | .slice ei => match T ei with
            | some tei => match leval s x, leval s y with
              | .d (.v (.int _ n)), .d (.v (.int _ m)) => match te.zero with
                | [.slice none 0 0] => bif Nat.beq te.size 1 && Nat.ble 1 tei.size then
                  some (m = n ∧ 0 ≤ n ∧ n * te.bytes ≤ 140737488355328 ∧ n ≤ 9223372036854775807, { s with hp := upd s.hp kb (some (.nest e ei tei.size n.toNat (fun _ => 0) (fun _ _ => []) [])) }.put o.dst (.row kb)) else none
                | _ => none
              | _, _ => none
            | none => none
          | _ => none
        | none => none
      | _ => none
    | none => none
  | .call { callee := .builtin .len, args, argTypes } => match args.toList, argTypes.toList with
    | [x], [t] => match leval s x with
      | .row k => match s.hp k with
        | some (.nest eo ei sz n L f ov) => match T t with
          | some ti => match ti.k with
            | .slice _ => some (True, s.put o.dst (.d (.v (.int .i64 (n : Int)))))
            | _ => none
          | none => none
        | _ => none
      | _ => none
    | _, _ => none
  | _ => none

/-- an outer row's element -/
theorem nest_cell {eo ei : TypeId} {sz n : Nat} {L : Nat → Nat} {f : Nat → Nat → List D} {ov : List (Nat × NE)} {k i : Nat} {v : Value} (h : ER ρ w I k (.nest eo ei sz n L f ov)) (hi : i < n) (hv : VR ρ w I (.eptr k 1 i 0) v) :
    ∃ g c xs, v = .pointer (some ⟨g, i, none⟩) ∧ ρ k = some (.slice (some ⟨g, 0, none⟩) n c) ∧ w.ownsRow 0 eo 1 (.slice (some ⟨g, 0, none⟩) n c) n xs ∧ w.cell? ⟨g, i, none⟩ = some (xs.getD i undef) ∧ NEok ρ w I ei sz (xs.getD i undef) (nOf L f ov i) := by
  obtain ⟨h0, u, xs, h1, h2, h3, h4, h5, h6⟩ := h
  cases hv with
  | eptr hp =>
    rename_i g n' c
    obtain rfl := Option.some.inj (h1.symm.trans hp)
    have hnn : n' = n := by
      rcases h2.2 with ⟨h', _⟩ | ⟨g', cap, cur, h', _⟩
      · simp at h'
      · simp at h'; exact h'.2.1
    subst hnn
    refine ⟨g, c, xs, by simp, h1, h2, ?_, h4 i hi⟩
    have := ownsRow_cellAt h2 hi
    simpa [cellAt, add_mk] using this

theorem nest_store {t : TypeId} {x y : Operand} {k i : Nat} {eo ei : TypeId} {sz n : Nat} {L : Nat → Nat} {f : Nat → Nat → List D} {ov : List (Nat × NE)} {it : TypeInfo} (ho : o.op = .store t x y) (hR : Rel O nt ρ I s a w) (hd : ∀ d, o.dst = some d → d < nt)
    (hk : s.hp k = some (.nest eo ei sz n L f ov)) (hx : VR ρ w I (.eptr k 1 i 0) (a.eval x)) (hit : P.info? t = some it) (hsz1 : it.size = 1) {u : Value} {ne : NE} (hay : a.eval y = u) (h1c : u.oneCell' = true) (hne : NEok ρ w I ei sz u ne) (hno : ∀ m f, ne ≠ .own m f) (hi : i < n) :
    Does P O nt ρ I kb o s ({ s with hp := upd s.hp k (some (.nest eo ei sz n L f ((i, ne) :: ov))) }.put o.dst .bad) a w := by
  have hER := hR.hp k _ hk
  obtain ⟨g, c, xs, hax, hρ, hown, hc, _⟩ := nest_cell hER hi hx
  obtain ⟨h0, v0, xs0, e1, e2, e3, e4, e5, e6⟩ := hER
  obtain rfl := Option.some.inj (e1.symm.trans hρ)
  have hOw := hR.ow k _ _ g hk hρ (.inl rfl)
  rcases e2.2 with ⟨h', _⟩ | ⟨g', cap, cur, h', _, hg, hnc, hcm, hcs', htake⟩
  · simp at h'
  simp only [Value.slice.injEq, Option.some.injEq, Addr.mk.injEq, and_true, true_and] at h'
  obtain ⟨rfl, rfl⟩ := h'
  rw [Nat.mul_one] at htake hcs'
  have hcu : u.cells = #[u] := by cases u <;> simp_all [Value.cells, Value.oneCell']
  have hil : i < cur.toList.length := by simp; omega
  have hst := run_storeCells_at P g i eo [u] 0 cur w hg (by simp at hil ⊢; omega) (by simpa using h1c)
  simp only [Nat.add_zero] at hst
  have hset : (cur.toList.take i ++ [u] ++ cur.toList.drop (i + [u].length)).toArray = (cur.toList.set i u).toArray := by
    rw [List.set_eq_take_append_cons_drop, if_pos hil]; simp
  rw [hset] at hst
  have hrun : (execOp a.eval o).run P w = .ok .skip (w.setRow g (cur.toList.set i u).toArray) := by
    simp only [execOp, ho, hax, hay, Instr.storeAt, Instr.sureAddr, storeVar, run_sizeOf' hit, hsz1, hcu, List.size_toArray, List.length_cons, List.length_nil, ne_eq, not_true_eq_false, if_false, hst, Sem.run_bind, Sem.run_pure, Result.andThen_ok, Nat.zero_add]
  generalize hcur : (cur.toList.set i u).toArray = cur' at hrun
  have hcl : cur'.toList = cur.toList.set i u := by rw [← hcur]
  have hcz : cur'.size = cur.size := by rw [← hcur]; simp
  have hoth : ∀ b, b ≠ g → (w.setRow g cur').heap[b]? = w.heap[b]? := fun b hb => setRow_other w g b _ hb
  have hneI : ∀ b, I b → b ≠ g := fun b hb hbg => hOw.1 (hbg ▸ hb)
  have hsize : (w.setRow g cur').heap.size = w.heap.size := by simp [World.setRow]
  have hx0 : xs0.length = n := by have := e2.1; simpa using this
  have hgd : ∀ j, (xs0.set i u).getD j undef = if j = i then u else xs0.getD j undef := by
    intro j
    by_cases hj : j = i
    · subst hj; simp [List.getD, hx0, hi]
    · simp [List.getD, List.getElem?_set_ne (Ne.symm hj), hj]
  have hrow : (w.setRow g cur').ownsRow 0 eo 1 (.slice (some ⟨g, 0, none⟩) n c) n (xs0.set i u) := by
    refine ⟨by simp [hx0], .inr ⟨g, c, cur', rfl, Nat.zero_le _, setRow_heap w g cur cur' eo (0, 0) hg, hnc, hcm, by rw [hcz]; simpa using hcs', ?_⟩⟩
    rw [Nat.mul_one, hcl, List.take_set, htake]
  have hE : ER ρ (w.setRow g cur') I k (.nest eo ei sz n L f ((i, ne) :: ov)) := by
    refine ⟨h0, _, xs0.set i u, hρ, hrow, fun u' hu' => ?_, fun j hj => ?_, fun j j' m1 m2 f1 f2 b hj hj' n1 n2 b1 b2 => ?_, fun j m1 f1 b hj n1 b1 => ?_⟩
    · rcases List.mem_or_eq_of_mem_set hu' with h | rfl
      · exact e3 _ h
      · exact h1c
    · rw [nOf_cons, hgd]
      split
      · exact hne.mono (Ext.refl _) (fun _ hb => hb) (fun b hb => hoth b (hneI b hb)) (fun m f g' hno' _ => absurd hno' (hno m f))
      · exact (e4 j hj).mono (Ext.refl _) (fun _ hb => hb) (fun b hb => hoth b (hneI b hb)) (fun m f g' hno' hb => hoth g' (fun e => e6 j m f g' hj hno' hb (by rw [e]; rfl)))
    · rw [nOf_cons] at n1 n2
      split at n1
      · exact absurd n1 (hno _ _)
      split at n2
      · exact absurd n2 (hno _ _)
      rw [hgd, if_neg ‹_›] at b1 b2
      exact e5 j j' m1 m2 f1 f2 b hj hj' n1 n2 b1 b2
    · rw [nOf_cons] at n1
      split at n1
      · exact absurd n1 (hno _ _)
      rw [hgd, if_neg ‹_›] at b1
      exact e6 j m1 f1 b hj n1 b1
  refine ⟨LS.put_nx _ _ _, LS.put_lo _ _ _, .skip, undef, _, ρ, I, hrun, .inr ⟨rfl, rfl⟩, ?_, Ext.refl _, fun _ _ => rfl, fun _ hb => hb, fun _ hb => .inl hb, fun b hb => hoth b (hneI b hb),
    ⟨rfl, rfl, rfl, by rw [hsize]; exact Nat.le_refl _, fun b hb _ => hoth b (fun e => hb (e ▸ hOw.2.1))⟩⟩
  refine Rel.put ?_ hd (.bad _)
  refine hR.setEnt hk hρ rfl hsize hoth hE (fun b hb => ?_)
  rcases hb with hb | ⟨j, m1, f1, u1, hj, n1, c1, b1⟩
  · exact .inl hb
  · rw [nOf_cons] at n1
    split at n1
    · exact absurd n1 (hno _ _)
    rename_i hji
    obtain rfl := Option.some.inj ((ownsRow_cellAt hrow hj).symm.trans c1)
    rw [hgd, if_neg hji] at b1
    exact .inr ⟨j, m1, f1, _, hj, n1, ownsRow_cellAt e2 hj, b1⟩


set_option maxHeartbeats 1000000 in
theorem opR_sound (hT : TOk P T) (h : opR T kb o s = some (p, s')) (hp : p) (hR : Rel O nt ρ I s a w) (hd : ∀ d, o.dst = some d → d < nt) (hkb : ρ kb = none) (hO : ∀ g, w.heap.size ≤ g → O g) : Does P O nt ρ I kb o s s' a w := by
  unfold opR at h
  split at h <;> (try (simp at h; done))
  · rename_i t x ho
    have hx := leval_sound hR x
    split at h <;> (try (simp at h; done))
    rename_i k sz1 i off hlx
    split at h <;> (try (simp at h; done))
    rename_i eo ei sz n L f ov hk
    obtain ⟨hz, h1⟩ := bif_some h
    clear h
    rw [Bool.and_eq_true] at hz
    obtain rfl : sz1 = 1 := by simpa using hz.1
    obtain rfl : off = 0 := by simpa using hz.2
    split at h1 <;> (try (simp at h1; done))
    rename_i ti ht
    split at h1 <;> (try (simp at h1; done))
    rename_i ee hkk
    rw [hlx] at hx
    have hER := hR.hp k _ hk
    have ld : ∀ (ρ' : Nat → Option Value) (g : Nat) (u : Value) (r : LV), a.eval x = .pointer (some ⟨g, i, none⟩) → w.cell? ⟨g, i, none⟩ = some u → VR ρ' w I r u → ∃ v, (execOp a.eval o).run P w = .ok (.value v) w ∧ VR ρ' w I r v := by
      intro ρ' g u r hax hc hr
      have h0 : ∀ j, j < [r].length → j = 0 := fun j hj => by simp at hj; omega
      obtain ⟨v, hrun, hvr⟩ := load_sound (ρ := ρ') (I := I) hT ht (ad := ⟨g, i, none⟩) (cs := [r]) (vs := fun _ => u) (fun j hj => by rw [h0 j hj, Addr.add_zero']; exact hc) (fun j hj => by rw [h0 j hj]; exact hr) (r := r) (by simp [loadLV, hkk])
      exact ⟨v, by simp only [execOp, ho, Instr.loadAt, Instr.sureAddr, hax, Sem.run_bind, Sem.run_pure, Result.andThen_ok, hrun], hvr⟩
    split at h1 <;> (try (simp at h1; done))
    · rename_i m hh hno
      simp only [Option.some.injEq, Prod.mk.injEq] at h1
      obtain ⟨rfl, rfl⟩ := h1
      obtain ⟨g, c, xs, hax, hρ, hown, hc, hne⟩ := nest_cell hER hp hx
      obtain ⟨h0, v0, xs0, e1, e2, e3, e4, e5, e6⟩ := hER
      obtain rfl := Option.some.inj (e1.symm.trans hρ)
      obtain rfl : xs0 = xs := by
        have a1 := hown.1
        have a2 := e2.1
        refine List.ext_getElem (by rw [a1, a2]) (fun q h1 h2 => ?_)
        have b1 := ownsRow_cellAt hown (i := q) (by rw [a1] at h2; omega)
        have b2 := ownsRow_cellAt e2 (i := q) (by rw [a1] at h2; omega)
        have b3 := Option.some.inj (b1.symm.trans b2)
        simpa [List.getD, List.getElem?_eq_getElem h1, List.getElem?_eq_getElem h2] using b3.symm
      rw [hno] at hne
      have hE : Ext ρ (upd ρ kb (some (xs0.getD i undef))) := Ext.upd hkb _
      have hu : ∃ A n c, xs0.getD i undef = .slice A n c := by
        obtain ⟨ys, q1, _⟩ := hne
        rcases q1.2 with ⟨q, _⟩ | ⟨g0, cap, cur, q, _⟩ <;> exact ⟨_, _, _, q⟩
      have hkne : k ≠ kb := by rintro rfl; rw [hkb] at hρ; simp at hρ
      have hS := hR.split (e1 := .nest eo ei sz n L f ((i, .hole kb) :: ov)) (e2 := .row ei sz m hh) (u := xs0.getD i undef) hk hρ hkb ?_ ?_ ?_ ?_ ?_
      · obtain ⟨v, hrun, hvr⟩ := ld (upd ρ kb (some (xs0.getD i undef))) g (xs0.getD i undef) (.row kb) hax hc (.row (by rw [upd_same]) hu)
        exact ⟨LS.put_nx _ _ _, LS.put_lo _ _ _, _, v, w, _, I, hrun, .inl rfl, hS.put hd hvr, hE, fun k' hk' => upd_ne _ _ hk', fun _ hb => hb, fun _ hb => .inl hb, fun _ _ => rfl, Step.refl _ _⟩
      · refine ⟨h0, _, xs0, by rw [upd_ne _ _ hkne]; exact hρ, e2, e3, fun j hj => ?_, fun j j' m1 m2 f1 f2 b hj hj' n1 n2 b1 b2 => ?_, fun j m1 f1 b hj n1 b1 => ?_⟩
        · rw [nOf_cons]
          split
          · rename_i e; subst e; exact upd_same _ _ _
          · exact (e4 j hj).mono hE (fun _ hb => hb) (fun _ _ => rfl) (fun _ _ _ _ _ => rfl)
        · rw [nOf_cons] at n1 n2
          split at n1 <;> (try (simp at n1; done))
          split at n2 <;> (try (simp at n2; done))
          exact e5 j j' m1 m2 f1 f2 b hj hj' n1 n2 b1 b2
        · rw [nOf_cons] at n1
          split at n1 <;> (try (simp at n1; done))
          exact e6 j m1 f1 b hj n1 b1
      · obtain ⟨ys, q1, q2, q3, q4⟩ := hne
        exact ⟨h0, _, ys, upd_same _ _ _, q1, q2, q3, q4⟩
      · intro g1 hg1
        rcases hg1 with hg1 | ⟨j, m1, f1, u1, hj, n1, c1, b1⟩
        · exact .inl hg1
        · rw [nOf_cons] at n1
          split at n1 <;> (try (simp at n1; done))
          exact .inr ⟨j, m1, f1, u1, hj, n1, c1, b1⟩
      · intro g1 hg1
        have hg1 := foot_flat rfl hg1
        exact .inr ⟨i, m, hh, _, hp, hno, ownsRow_cellAt e2 hp, hg1⟩
      · intro g1 hg1 hg2
        have hg2 := foot_flat rfl hg2
        rcases hg1 with hg1 | ⟨j, m1, f1, u1, hj, n1, c1, b1⟩
        · exact e6 i m hh g1 hp hno hg2 hg1
        · rw [nOf_cons] at n1
          split at n1 <;> (try (simp at n1; done))
          rename_i hji
          obtain rfl := Option.some.inj (c1.symm.trans (ownsRow_cellAt e2 hj))
          exact hji (e5 j i m1 m f1 hh g1 hj hp n1 hno b1 hg2)
    · rename_i k' hno
      split at h1 <;> (try (simp at h1; done))
      rename_i e4 sz4 n4 f4 hk'
      simp only [Option.some.injEq, Prod.mk.injEq] at h1
      obtain ⟨rfl, rfl⟩ := h1
      obtain ⟨g, c, xs, hax, hρ, hown, hc, hne⟩ := nest_cell hER hp hx
      rw [hno] at hne
      obtain ⟨_, v4, xs4, q1, q2, _⟩ := hR.hp k' _ hk'
      have hu : ∃ A n c, xs.getD i undef = .slice A n c := by
        obtain rfl := Option.some.inj (q1.symm.trans hne)
        rcases q2.2 with ⟨q, _⟩ | ⟨g0, cap, cur, q, _⟩ <;> exact ⟨_, _, _, q⟩
      obtain ⟨v, hrun, hvr⟩ := ld ρ g _ (.row k') hax hc (.row hne hu)
      exact Does.value hR hd hrun hvr
    · rename_i y hno
      simp only [Option.some.injEq, Prod.mk.injEq] at h1
      obtain ⟨rfl, rfl⟩ := h1
      obtain ⟨g, c, xs, hax, hρ, hown, hc, hne⟩ := nest_cell hER hp hx
      rw [hno] at hne
      obtain ⟨v, hrun, hvr⟩ := ld ρ g _ (.d y) hax hc (.d hne)
      exact Does.value hR hd hrun hvr
  · rename_i t x y ho
    have hx := leval_sound hR x
    have hy := leval_sound hR y
    split at h <;> (try (simp at h; done))
    rename_i k sz1 i off hlx
    split at h <;> (try (simp at h; done))
    rename_i eo ei sz n L f ov hk
    obtain ⟨hz, h1⟩ := bif_some h
    clear h
    rw [Bool.and_eq_true] at hz
    obtain rfl : sz1 = 1 := by simpa using hz.1
    obtain rfl : off = 0 := by simpa using hz.2
    split at h1 <;> (try (simp at h1; done))
    rename_i ti ht
    obtain ⟨hsz, h2⟩ := bif_some h1
    clear h1
    have hts : ti.size = 1 := by simpa using hsz
    obtain ⟨it, dt, zt, hit, hut, hzt, hszt, _⟩ := (hT t ti ht).ex
    rw [hlx] at hx
    have hER := hR.hp k _ hk
    have key : ∀ (u : Value) (ne : NE), a.eval y = u → u.oneCell' = true → NEok ρ w I ei sz u ne → (∀ m f, ne ≠ .own m f) → i < n → Does P O nt ρ I kb o s ({ s with hp := upd s.hp k (some (.nest eo ei sz n L f ((i, ne) :: ov))) }.put o.dst .bad) a w :=
      fun u ne hay h1c hne hno hi => nest_store ho hR hd hk hx hit (by rw [hszt, hts]) hay h1c hne hno hi
    split at h2 <;> (try (simp at h2; done))
    · rename_i k' hly
      split at h2 <;> (try (simp at h2; done))
      rename_i ei' sz' n' f' hk'
      obtain ⟨hz', h3⟩ := bif_some h2
      simp only [Option.some.injEq, Prod.mk.injEq] at h3
      obtain ⟨rfl, rfl⟩ := h3
      rw [hly] at hy
      generalize hay : a.eval y = u at hy
      cases hy with
      | row hρ' hv => exact key u (.hole k') hay (by obtain ⟨A, n, c, rfl⟩ := hv; rfl) hρ' (fun _ _ => by simp) hp
    · rename_i z hly
      obtain ⟨hz', h3⟩ := bif_some h2
      simp only [Option.some.injEq, Prod.mk.injEq] at h3
      obtain ⟨rfl, rfl⟩ := h3
      rw [hly] at hy
      exact key _ (.dat z) rfl (okCell_one hy hz') (VR.data hy) (fun _ _ => by simp) hp
  · rename_i t x y ho
    have hx := leval_sound hR x
    have hy := leval_sound hR y
    split at h <;> (try (simp at h; done))
    rename_i k hlx
    split at h <;> (try (simp at h; done))
    rename_i eo ei sz n L f ov hk
    split at h <;> (try (simp at h; done))
    rename_i kk i hly
    split at h <;> (try (simp at h; done))
    rename_i ti ht
    split at h <;> (try (simp at h; done))
    rename_i e hkk
    split at h <;> (try (simp at h; done))
    rename_i te hte
    obtain ⟨hz, h1⟩ := bif_some h
    clear h
    have hts : te.size = 1 := by simpa using hz
    simp only [Option.some.injEq, Prod.mk.injEq] at h1
    obtain ⟨rfl, rfl⟩ := h1
    have hu := slice_at hT ht hkk
    obtain ⟨ie, de, ze, hie, hue, hze, hsze, _⟩ := (hT e te hte).ex
    rw [hly] at hy
    have hy := VR.atom hy
    rw [hlx] at hx
    generalize hax : a.eval x = vx at hx
    obtain ⟨h0, u, xs, h2, h3, _⟩ := hR.hp k _ hk
    cases hx with
    | row hρ hv =>
      obtain rfl := Option.some.inj (h2.symm.trans hρ)
      rcases h3.2 with ⟨rfl, rfl⟩ | ⟨g, cap, cur, rfl, _⟩
      · omega
      · refine Does.value hR hd (v := .pointer (some ⟨g, i.toNat, none⟩)) ?_ ?_
        · simp only [execOp, ho, hax, hy, Instr.indexAt, asIntOf, run_underlying hu, run_sizeOf' hie, hsze, hts, hp.1, hp.2, and_self, if_true, Sem.run_bind, Result.andThen_ok, Sem.run_pure, Addr.add_lit, Nat.mul_one, Nat.zero_add]
        · have := VR.eptr (w := w) (I := I) (sz := 1) (i := i.toNat) (off := 0) hρ
          simpa using this
  · rename_i t x y ho
    have hx := leval_sound hR x
    have hy := leval_sound hR y
    split at h <;> (try (simp at h; done))
    rename_i ti ht
    split at h <;> (try (simp at h; done))
    rename_i e hk
    have hu := slice_at hT ht hk
    split at h <;> (try (simp at h; done))
    rename_i te hte
    obtain ⟨i2, d2, z2, hi2, hu2, hz2, hsz2, hby2, hc2, hl2, hk2⟩ := (hT e te hte).ex
    split at h <;> (try (simp at h; done))
    rename_i ei hkei
    split at h <;> (try (simp at h; done))
    rename_i tei htei
    split at h <;> (try (simp at h; done))
    rename_i k1 n k2 m hlx hly
    split at h <;> (try (simp at h; done))
    rename_i hzero
    obtain ⟨hc, h1⟩ := bif_some h
    clear h
    simp only [Option.some.injEq, Prod.mk.injEq] at h1
    obtain ⟨rfl, rfl⟩ := h1
    rw [Bool.and_eq_true] at hc
    have h1s : te.size = 1 := by simpa using hc.1
    have h2s : 1 ≤ tei.size := by simpa using hc.2
    obtain ⟨rfl, h0, hb, h63⟩ := hp
    rw [hlx] at hx
    rw [hly] at hy
    have hx := VR.atom hx
    have hy := VR.atom hy
    have hrun := run_make (P := P) w t e i2 z2 hu hi2 hz2 k1 k2 m m h0 (Int.le_refl _) (by rw [hby2, Int.mul_comm]; omega) h63
    rw [hsz2, h1s] at hrun
    have hget : ∀ q, q < m.toNat * 1 → (madeCells z2.cells (m.toNat * 1)).toList.getD q undef = .slice none 0 0 := by
      intro q hq
      have hq' : q < m.toNat := by omega
      have e1 : z2.cells = #[.slice none 0 0] := by rw [hc2, hzero]
      simp only [madeCells, e1]
      simp [List.getD, hq', Nat.mod_one]
    have hms : (madeCells z2.cells (m.toNat * 1)).size = m.toNat * 1 := size_madeCells _ _
    have hrow : (w.alloc (.cells (madeCells z2.cells (m.toNat * 1)) e)).ownsRow 0 e 1 (.slice (some ⟨w.heap.size, 0, none⟩) m.toNat m.toNat) m.toNat (madeCells z2.cells (m.toNat * 1)).toList :=
      World.ownsRow_lit w _ m.toNat (Nat.zero_le _) (by simp only [maxLen]; omega) hms
    have hnil : ∀ j, j < m.toNat → (madeCells z2.cells (m.toNat * 1)).toList.getD j undef = .slice none 0 0 := fun j hj => hget j (by omega)
    have hnoblk : ∀ j b, j < m.toNat → blk ((madeCells z2.cells (m.toNat * 1)).toList.getD j undef) ≠ some b := fun j b hj hb => by rw [hnil j hj] at hb; simp [blk] at hb
    refine ⟨LS.put_nx _ _ _, LS.put_lo _ _ _, _, .slice (some ⟨w.heap.size, 0, none⟩) m.toNat m.toNat, w.alloc _, upd ρ kb (some (.slice (some ⟨w.heap.size, 0, none⟩) m.toNat m.toNat)), I, ?_, .inl rfl, (hR.newEnt hkb (o := .cells (madeCells z2.cells (m.toNat * 1)) e) (fun g hg => ?_) (hO _ (Nat.le_refl _)) ?_).put hd (.row (by rw [upd_same]) ⟨_, _, _, rfl⟩), Ext.upd hkb _, fun k hk => upd_ne _ _ hk, fun _ hb => hb, fun _ hb => .inl hb, fun b hb => Below.heap_alloc _ _ _ (hR.lt b hb), Step.alloc _ _ _⟩
    · simp only [execOp, ho, hx, hy, hrun, Sem.run_bind, Sem.run_pure, Result.andThen_ok]
    · rcases hg with hg | ⟨j, m1, f1, u1, hj, n1, c1, b1⟩
      · exact (Option.some.inj hg).symm
      · obtain rfl := Option.some.inj ((ownsRow_cellAt hrow hj).symm.trans c1)
        exact absurd b1 (hnoblk j g hj)
    · refine ⟨h2s, _, _, upd_same _ _ _, hrow, ?_, fun j hj => ?_, fun j j' m1 m2 f1 f2 b hj hj' n1 n2 b1 b2 => absurd b1 (hnoblk j b hj), fun j m1 f1 b hj n1 b1 => absurd b1 (hnoblk j b hj)⟩
      · intro u hu3
        obtain ⟨q, hq, rfl⟩ := List.getElem_of_mem hu3
        have hq' : q < m.toNat * 1 := by rw [Array.length_toList, hms] at hq; exact hq
        have := hget q hq'
        simp only [List.getD, List.getElem?_eq_getElem hq, Option.getD_some] at this
        rw [this]; rfl
      · rw [hnil j hj]
        exact ⟨[], ⟨by simp, .inl ⟨rfl, rfl⟩⟩, by simp, fun i hi => absurd hi (Nat.not_lt_zero _), fun i j hi => absurd hi (Nat.not_lt_zero _)⟩
  · rename_i args ts ho
    split at h <;> (try (simp at h; done))
    rename_i x t hargs hts
    split at h <;> (try (simp at h; done))
    rename_i k hlx
    split at h <;> (try (simp at h; done))
    rename_i eo ei sz n L f ov hk
    split at h <;> (try (simp at h; done))
    rename_i ti ht
    split at h <;> (try (simp at h; done))
    rename_i e hkk
    simp only [Option.some.injEq, Prod.mk.injEq] at h
    obtain ⟨rfl, rfl⟩ := h
    obtain rfl : args = #[x] := by cases args; simp_all
    obtain rfl : ts = #[t] := by cases ts; simp_all
    have hx := leval_sound hR x
    rw [hlx] at hx
    generalize hax : a.eval x = vx at hx
    obtain ⟨h0, u, xs, h2, h3, _⟩ := hR.hp k _ hk
    have hu := slice_at hT ht hkk
    cases hx with
    | row hρ hv =>
      obtain rfl := Option.some.inj (h2.symm.trans hρ)
      have hA : ∃ A c, u = .slice A n c := by
        rcases h3.2 with ⟨rfl, rfl⟩ | ⟨g, cap, cur, rfl, _⟩ <;> exact ⟨_, _, rfl⟩
      obtain ⟨A, c, rfl⟩ := hA
      refine Does.value hR hd (v := .int .i64 n) ?_ (.d (.v _))
      have hn : (Builtin.len_ #[t] o.type #[a.eval x]).run P w = .ok (.int .i64 n) w := by simp [Builtin.len_, run_underlying hu, hax, goInt]
      simp only [execOp, ho, resolve, invoke, builtin, List.map_toArray, List.map_cons, List.map_nil, hn, Sem.run_bind, Result.andThen_ok, Sem.run_pure]

end
end Go.Proofs.YtojaakpnpdnbhaaGreatDoor.L
