/- The operations of the symbolic logic are true of the machine's: those that make and turn memory. -/
import Derived.Test.YtojaakpnpdnbhaaGreatDoorLe
set_option linter.unusedVariables false
set_option linter.unusedSimpArgs false
namespace Go.Proofs.YtojaakpnpdnbhaaGreatDoor.L
open Go.RowKit
section
variable {P : Program} {T : TT} {O : Nat → Prop} {nt : Nat} {ρ : Nat → Option Value} {I : Nat → Prop} {s : LS} {a : Act} {w : World} {kb : Nat} {o : Oper} {p : Prop} {s' : LS}

/-- Memory that was made, told under a new name. -/
theorem Does.made (hR : Rel O nt ρ I s a w) (hd : ∀ d, o.dst = some d → d < nt) (hkb : ρ kb = none) (hO : ∀ g, w.heap.size ≤ g → O g) {ob : Obj} {e : Ent} {v : Value} {x : LV}
    (hr : (execOp a.eval o).run P w = .ok (.value v) (w.alloc ob)) (hb : blk v = some w.heap.size) {u : Value} (hu : blk u = some w.heap.size) (he : ER (upd ρ kb (some u)) (w.alloc ob) I kb e) (hx : VR (upd ρ kb (some u)) (w.alloc ob) I x v) (hfe : flat e = true := by rfl) :
    Does P O nt ρ I kb o s ({ s with hp := upd s.hp kb (some e) }.put o.dst x) a w :=
  ⟨LS.put_nx _ _ _, LS.put_lo _ _ _, _, v, w.alloc ob, upd ρ kb (some u), I, hr, .inl rfl, (hR.newEnt hkb (fun g hg => by have := foot_flat hfe hg; rw [hu] at this; exact (Option.some.inj this).symm) (hO _ (Nat.le_refl _)) he).put hd hx, Ext.upd hkb _, fun k hk => upd_ne _ _ hk, fun _ hb => hb, fun _ hb => .inl hb, fun b hb => Below.heap_alloc _ _ _ (hR.lt b hb), Step.alloc _ _ _⟩

theorem VR.world {x : LV} {v : Value} (h : VR ρ w I x v) (hR : Rel O nt ρ I s a w) (hkb : ρ kb = none) (u : Value) (ob : Obj) : VR (upd ρ kb (some u)) (w.alloc ob) I x v :=
  h.mono (Ext.upd hkb _) (fun _ hb => hb) (fun b hb => Below.heap_alloc _ _ _ (hR.lt b hb))

theorem run_newRow (t : TypeId) (cs : Array Value) : (newRow t cs).run P w = .ok ⟨w.heap.size, 0, none⟩ (w.alloc (.cells cs t)) := rfl

theorem ER.ofBox {t : TypeId} {cs : List LV} {us : Array Value} (hR : Rel O nt ρ I s a w) (hkb : ρ kb = none) (hl : us.size = cs.length) (hv : ∀ j, j < cs.length → VR ρ w I (cs.getD j .bad) (us.getD j undef)) :
    ER (upd ρ kb (some (.pointer (some ⟨w.heap.size, 0, none⟩)))) (w.alloc (.cells us t)) I kb (.box t cs) :=
  ⟨w.heap.size, us, by rw [upd_same], heap_alloc_new w _, hl, fun j hj => (hv j hj).world hR hkb _ _⟩

theorem getD_mapv (l : List Value) (j : Nat) (hj : j < l.length) : (l.map fun x => LV.d (.v x)).getD j .bad = .d (.v (l.getD j undef)) := by
  simp [List.getD, List.getElem?_eq_getElem hj]

theorem sound_alloc (hT : TOk P T) {t : TypeId} (ho : o.op = .alloc t) (h : opF T kb o s = some (p, s')) (hR : Rel O nt ρ I s a w) (hd : ∀ d, o.dst = some d → d < nt) (hkb : ρ kb = none) (hO : ∀ g, w.heap.size ≤ g → O g) : Does P O nt ρ I kb o s s' a w := by
  unfold opF at h
  simp only [ho] at h
  split at h <;> (try (simp at h; done))
  rename_i ti ht
  obtain ⟨i, d, z, hi, hu, hz, hsz, hby, hc, hl, hk⟩ := (hT t ti ht).ex
  simp only [Option.some.injEq, Prod.mk.injEq] at h
  obtain ⟨rfl, rfl⟩ := h
  refine Does.made hR hd hkb hO (ob := .cells z.cells t) (v := .pointer (some ⟨w.heap.size, 0, none⟩)) ?_ rfl rfl (ER.ofBox hR hkb (by rw [hc]; simp) (fun j hj => ?_)) (.ptr (by rw [upd_same]))
  · simp only [execOp, ho, Instr.alloc, run_zero hi hz, newVar, run_newRow, Sem.run_bind, Sem.run_pure, Result.andThen_ok]
  · have hj : j < ti.zero.length := by simpa using hj
    rw [getD_mapv _ _ hj, hc]
    have : ti.zero.toArray.getD j undef = ti.zero.getD j undef := by simp [Array.getD, List.getD, hj]
    rw [this]
    exact .d (.v _)

theorem sound_box {t : TypeId} {x : Operand} (ho : o.op = .box t x) (h : opF T kb o s = some (p, s')) (hR : Rel O nt ρ I s a w) (hd : ∀ d, o.dst = some d → d < nt) (hkb : ρ kb = none) (hO : ∀ g, w.heap.size ≤ g → O g) : Does P O nt ρ I kb o s s' a w := by
  have hx := leval_sound hR x
  unfold opF at h
  simp only [ho] at h
  split at h <;> (try (simp at h; done))
  rename_i cs hcs
  simp only [Option.some.injEq, Prod.mk.injEq] at h
  obtain ⟨rfl, rfl⟩ := h
  obtain ⟨h1, h2, h3⟩ := cellsLV_sound hx hcs
  refine Does.made hR hd hkb hO (ob := .cells (a.eval x).cells t) (v := .pointer (some ⟨w.heap.size, 0, none⟩)) ?_ rfl rfl (ER.ofBox hR hkb h1 h2) (.ptr (by rw [upd_same]))
  simp only [execOp, ho, Instr.box, newVar, run_newRow, Sem.run_bind, Sem.run_pure, Result.andThen_ok]

theorem length_splice {α : Type} (cs new : List α) (off : Nat) (h : off + new.length ≤ cs.length) : (splice cs off new).length = cs.length := by
  simp [splice_eq]; omega
theorem getD_splice {α : Type} (cs new : List α) (off j : Nat) (x : α) (h : off + new.length ≤ cs.length) : (splice cs off new).getD j x = if off ≤ j ∧ j < off + new.length then new.getD (j - off) x else cs.getD j x := by
  simp only [splice_eq, List.getD_eq_getElem?_getD, List.getElem?_append, List.length_take, List.getElem?_take, List.getElem?_drop]
  by_cases h1 : j < min off cs.length
  · rw [if_pos h1, if_pos (by omega), if_neg (by omega)]
  · rw [if_neg h1]
    have hm : min off cs.length = off := by omega
    rw [hm]
    by_cases h2 : j - off < new.length
    · rw [if_pos h2, if_pos (by omega)]
    · rw [if_neg h2, if_neg (by omega)]
      congr 2
      omega

theorem mapO_data : ∀ {new : List LV} {ds : List D}, mapO dataOf new = some ds → ds.length = new.length ∧ ∀ j, j < new.length → new.getD j .bad = .d (ds.getD j (.v undef))
  | [], ds, hds => by simp [mapO] at hds; subst hds; simp
  | x :: xs, ds, hds => by
    simp only [mapO] at hds
    cases hx1 : dataOf x with
    | none => simp [hx1] at hds
    | some y1 =>
      cases hx2 : mapO dataOf xs with
      | none => simp [hx1, hx2] at hds
      | some ys =>
        simp only [hx1, hx2, Option.some.injEq] at hds
        subst hds
        obtain ⟨i1, i2⟩ := mapO_data hx2
        have hxd : x = .d y1 := by cases x <;> simp_all [dataOf]
        refine ⟨by simp [i1], fun j hj => ?_⟩
        cases j with
        | zero => simp [hxd]
        | succ j => simpa using i2 j (by simpa using hj)

theorem sound_store (hT : TOk P T) {t : TypeId} {x y : Operand} (ho : o.op = .store t x y) (h : opF T kb o s = some (p, s')) (hp : p) (hR : Rel O nt ρ I s a w) (hd : ∀ d, o.dst = some d → d < nt) : Does P O nt ρ I kb o s s' a w := by
  have hx := leval_sound hR x
  have hy := leval_sound hR y
  unfold opF at h
  simp only [ho] at h
  split at h <;> (try (simp at h; done))
  rename_i ti ht
  obtain ⟨i, d, z, hi, hu, hz, hsz, hby, hc, hl, hk⟩ := (hT t ti ht).ex
  split at h <;> (try (simp at h; done))
  rename_i new hnew
  obtain ⟨hlen, h0⟩ := bif_some h
  clear h
  have hlen : new.length = ti.size := by simpa using hlen
  obtain ⟨c1, c2, c3⟩ := cellsLV_sound hy hnew
  have hcs : (a.eval y).cells.size = i.size := by omega
  have run : ∀ (g off : Nat) (e : TypeId) (us : Array Value), a.eval x = .pointer (some ⟨g, off, none⟩) → w.heap[g]? = some (.cells us e (0, 0)) → off + new.length ≤ us.size →
      (execOp a.eval o).run P w = .ok .skip (w.setRow g (us.toList.take off ++ (a.eval y).cells.toList ++ us.toList.drop (off + (a.eval y).cells.toList.length)).toArray) := by
    intro g off e us hax hg hle
    have hst := run_storeCells_at P g off e (a.eval y).cells.toList 0 us w hg (by simp; omega) c3
    simp only [Nat.add_zero] at hst
    simp only [execOp, ho, hax, Instr.storeAt, Instr.sureAddr, storeVar, run_sizeOf' hi, hcs, ne_eq, not_true_eq_false, if_false, hst, Sem.run_bind, Sem.run_pure, Result.andThen_ok]
  split at h0 <;> (try (simp at h0; done))
  · rename_i k off hlx
    split at h0 <;> (try (simp at h0; done))
    rename_i bt cs hkk
    obtain ⟨hle, h1⟩ := bif_some h0
    clear h0
    have hle : off + new.length ≤ cs.length := by simpa using hle
    simp only [Option.some.injEq, Prod.mk.injEq] at h1
    obtain ⟨rfl, rfl⟩ := h1
    rw [hlx] at hx
    obtain ⟨g, us, hax, hρ, hg, h3, h4, h5⟩ := box_cells (hR.hp k _ hkk) hx
    have hrun := run g off bt us hax hg (by omega)
    generalize hus : (us.toList.take off ++ (a.eval y).cells.toList ++ us.toList.drop (off + (a.eval y).cells.toList.length)).toArray = us' at hrun
    have hus2 : us'.toList = splice us.toList off (a.eval y).cells.toList := by rw [← hus]; simp [splice_eq, List.append_assoc]
    have hO := (hR.ow k _ _ g hkk hρ (.inl rfl))
    have hlt : g < w.heap.size := hO.2.2
    have hsize : (w.setRow g us').heap.size = w.heap.size := by simp [World.setRow]
    have hfit : off + (a.eval y).cells.toList.length ≤ us.toList.length := by simp; omega
    have hs' : us'.size = cs.length := by
      have := length_splice us.toList (a.eval y).cells.toList off hfit
      rw [← hus2] at this
      simpa [h3] using this
    have hval : ∀ j, j < cs.length → VR ρ w I ((splice cs off new).getD j .bad) (us'.getD j undef) := by
      intro j hj
      have e1 : us'.getD j undef = us'.toList.getD j undef := by simp [Array.getD, List.getD, hs', hj]
      rw [e1, hus2, getD_splice _ _ _ _ _ hfit, getD_splice _ _ _ _ _ hle]
      have e2 : (a.eval y).cells.toList.length = new.length := by simpa using c1
      rw [e2]
      split
      · have := c2 (j - off) (by omega)
        have e3 : (a.eval y).cells.getD (j - off) undef = (a.eval y).cells.toList.getD (j - off) undef := by
          have h6 : j - off < (a.eval y).cells.size := by omega
          simp [Array.getD, List.getD, h6]
        rwa [e3] at this
      · have := h4 j hj
        have e3 : us.getD j undef = us.toList.getD j undef := by
          have h6 : j < us.size := by omega
          simp [Array.getD, List.getD, h6]
        rwa [e3] at this
    have hoth : ∀ b, b ≠ g → (w.setRow g us').heap[b]? = w.heap[b]? := fun b hb => setRow_other w g b _ hb
    have hne : ∀ b, I b → b ≠ g := fun b hb hbg => hO.1 (hbg ▸ hb)
    have hE : ER ρ (w.setRow g us') I k (.box bt (splice cs off new)) :=
      ⟨g, us', hρ, setRow_heap w g us us' bt (0, 0) hg, by rw [hs', length_splice _ _ _ hle], fun j hj => (hval j (by rwa [length_splice _ _ _ hle] at hj)).mono (Ext.refl _) (fun _ hb => hb) (fun b hb => hoth b (hne b hb))⟩
    exact ⟨LS.put_nx _ _ _, LS.put_lo _ _ _, _, undef, _, ρ, I, hrun, .inr ⟨rfl, rfl⟩, (hR.setEnt hkk hρ rfl hsize hoth hE (fun b hb => .inl (foot_flat rfl hb))).put hd (.bad _), Ext.refl _, fun _ _ => rfl, fun _ hb => hb, fun _ hb => .inl hb, fun b hb => hoth b (hne b hb),
      ⟨rfl, rfl, rfl, by rw [hsize]; exact Nat.le_refl _, fun b hb _ => hoth b (fun e => hb (e ▸ hO.2.1))⟩⟩
  · rename_i k sz i' off hlx
    split at h0 <;> (try (simp at h0; done))
    rename_i e sz' n f ds hkk hds
    obtain ⟨hle, h1⟩ := bif_some h0
    clear h0
    simp only [Option.some.injEq, Prod.mk.injEq] at h1
    obtain ⟨rfl, rfl⟩ := h1
    rw [Bool.and_eq_true] at hle
    obtain ⟨hle1, hle⟩ := hle
    obtain rfl : sz = sz' := by simpa using hle1
    have hle : off + ds.length ≤ sz := by simpa using hle
    rw [hlx] at hx
    have hER := hR.hp k _ hkk
    obtain ⟨g, c, xs, hax, hρ, hown, hfl, hrd, hce⟩ := row_cells hER hp hx
    obtain ⟨hz0, u, xs', hρ', hown', hone, hlen', hrd'⟩ := hER
    obtain rfl := Option.some.inj (hρ.symm.trans hρ')
    have hdl := mapO_data hds
    rcases hown'.2 with ⟨h', _⟩ | ⟨g', cap, cur, h', _, hg, hnc, hcm, hcs', htake⟩
    · simp at h'
    · simp only [Value.slice.injEq, Option.some.injEq, Addr.mk.injEq, and_true, true_and] at h'
      obtain ⟨rfl, rfl⟩ := h'
      have hsub : (i' + 1) * sz ≤ n * sz := Nat.mul_le_mul_right _ hp
      rw [Nat.add_mul, Nat.one_mul] at hsub
      have hcap : n * sz ≤ c * sz := Nat.mul_le_mul_right _ hnc
      have hfit : i' * sz + off + new.length ≤ cur.size := by omega
      have hrun := run g (i' * sz + off) e cur hax hg hfit
      generalize hus : (cur.toList.take (i' * sz + off) ++ (a.eval y).cells.toList ++ cur.toList.drop (i' * sz + off + (a.eval y).cells.toList.length)).toArray = cur' at hrun
      have hus2 : cur'.toList = splice cur.toList (i' * sz + off) (a.eval y).cells.toList := by rw [← hus]; simp [splice_eq, List.append_assoc]
      have e2 : (a.eval y).cells.toList.length = new.length := by simpa using c1
      have hfit2 : i' * sz + off + (a.eval y).cells.toList.length ≤ cur.toList.length := by rw [e2]; simpa using hfit
      have hO := (hR.ow k _ _ g hkk hρ (.inl rfl))
      have hsize : (w.setRow g cur').heap.size = w.heap.size := by simp [World.setRow]
      have hcl : cur'.size = cur.size := by
        have := length_splice cur.toList (a.eval y).cells.toList (i' * sz + off) hfit2
        rw [← hus2] at this
        simpa using this
      have hoth : ∀ b, b ≠ g → (w.setRow g cur').heap[b]? = w.heap[b]? := fun b hb => setRow_other w g b _ hb
      have hne : ∀ b, I b → b ≠ g := fun b hb hbg => hO.1 (hbg ▸ hb)
      have hxl : xs'.length = n * sz := hown'.1
      have hxg : ∀ q, q < n * sz → xs'.getD q undef = cur.toList.getD q undef := by
        intro q hq
        rw [← htake]
        simp [List.getD, List.getElem?_take, hq]
      have hlast : (cur'.toList.take (n * sz)).length = n * sz := by simp; omega
      have hgd : ∀ q, q < n * sz → (cur'.toList.take (n * sz)).getD q undef = if i' * sz + off ≤ q ∧ q < i' * sz + off + new.length then (a.eval y).cells.toList.getD (q - (i' * sz + off)) undef else xs'.getD q undef := by
        intro q hq
        have : (cur'.toList.take (n * sz)).getD q undef = cur'.toList.getD q undef := by simp [List.getD, List.getElem?_take, hq]
        rw [this, hus2, getD_splice _ _ _ _ _ hfit2, e2, hxg q hq]
      have hE : ER ρ (w.setRow g cur') I k (.row e sz n fun j => if j = i' then splice (f j) off ds else f j) := by
        refine ⟨hz0, _, cur'.toList.take (n * sz), hρ, ⟨hlast, .inr ⟨g, c, cur', rfl, Nat.zero_le _, setRow_heap w g cur cur' e (0, 0) hg, hnc, hcm, by rw [hcl]; exact hcs', rfl⟩⟩, ?_, ?_, ?_⟩
        · intro u hu
          obtain ⟨q, hq, rfl⟩ := List.getElem_of_mem hu
          have hq' : q < n * sz := by rw [hlast] at hq; exact hq
          have hgq := hgd q hq'
          simp only [List.getD, List.getElem?_eq_getElem hq, Option.getD_some] at hgq
          rw [hgq]
          split
          · have h6 : q - (i' * sz + off) < (a.eval y).cells.toList.length := by omega
            rw [List.getElem?_eq_getElem h6, Option.getD_some]
            exact c3 _ (List.getElem_mem h6)
          · have h6 : q < xs'.length := by omega
            rw [List.getElem?_eq_getElem h6, Option.getD_some]
            exact hone _ (List.getElem_mem h6)
        · intro j hj
          simp only
          split
          · rw [length_splice _ _ _ (by rw [hlen' j hj]; exact hle)]; exact hlen' j hj
          · exact hlen' j hj
        · intro j q hj hq
          have hjn : (j + 1) * sz ≤ n * sz := Nat.mul_le_mul_right _ hj
          rw [Nat.add_mul, Nat.one_mul] at hjn
          rw [hgd (j * sz + q) (by omega)]
          have hr0 := (hrd' j q hj hq).mono (w' := w.setRow g cur') (I' := I) (fun _ hb => hb) (fun b hb => hoth b (hne b hb))
          dsimp only
          by_cases hji : j = i'
          · subst hji
            rw [if_pos rfl, getD_splice _ _ _ _ _ (by rw [hlen' j hj]; exact hle)]
            by_cases hin : off ≤ q ∧ q < off + ds.length
            · rw [if_pos hin, if_pos (by omega)]
              have h7 := c2 (q - off) (by omega)
              rw [hdl.2 (q - off) (by omega)] at h7
              have h8 : (a.eval y).cells.toList.getD (j * sz + q - (j * sz + off)) undef = (a.eval y).cells.getD (q - off) undef := by
                have h9 : q - off < (a.eval y).cells.size := by omega
                rw [show j * sz + q - (j * sz + off) = q - off by omega]
                simp [Array.getD, List.getD, h9]
              rw [h8]
              exact (VR.data h7).mono (fun _ hb => hb) (fun b hb => hoth b (hne b hb))
            · rw [if_neg hin, if_neg (by omega)]
              exact hr0
          · rw [if_neg hji, if_neg ?_]
            · exact hr0
            · intro hh
              rcases Nat.lt_or_gt_of_ne hji with hlt | hgt
              · have : (j + 1) * sz ≤ i' * sz := Nat.mul_le_mul_right _ hlt
                rw [Nat.add_mul, Nat.one_mul] at this
                omega
              · have : (i' + 1) * sz ≤ j * sz := Nat.mul_le_mul_right _ hgt
                rw [Nat.add_mul, Nat.one_mul] at this
                omega
      exact ⟨LS.put_nx _ _ _, LS.put_lo _ _ _, _, undef, _, ρ, I, hrun, .inr ⟨rfl, rfl⟩, (hR.setEnt hkk hρ rfl hsize hoth hE (fun b hb => .inl (foot_flat rfl hb))).put hd (.bad _), Ext.refl _, fun _ _ => rfl, fun _ hb => hb, fun _ hb => .inl hb, fun b hb => hoth b (hne b hb),
        ⟨rfl, rfl, rfl, by rw [hsize]; exact Nat.le_refl _, fun b hb _ => hoth b (fun e => hb (e ▸ hO.2.1))⟩⟩
end
end Go.Proofs.YtojaakpnpdnbhaaGreatDoor.L
