/- Rows of rows: literals, appending. -/
import Derived.Test.YtojaakpnpdnbhaaGreatDoorMa
import Derived.Test.YtojaakpnpdnbhaaGreatDoorLi
import Derived.Laws.Strings
set_option linter.unusedVariables false
set_option linter.unusedSimpArgs false
namespace Go.Proofs.YtojaakpnpdnbhaaGreatDoor.L
open Go.RowKit

/-- parts of a literal, a cell each -/
def lit1 (s : LS) : Nat → List (Nat × Operand) → Option (List LV)
  | _, [] => some []
  | j, (i, x) :: rest => bif Nat.beq i j && okCell (leval s x) then (match lit1 s (j + 1) rest with
      | some l => some (leval s x :: l)
      | none => none) else none
def neOf (s : LS) (ei : TypeId) (sz : Nat) : LV → Option NE
  | .row k => match s.hp k with
    | some (.row ei' sz' _ _) => bif Nat.beq ei ei' && Nat.beq sz sz' then some (.hole k) else none
    | _ => none
  | .d x => some (.dat x)
  | _ => none
def ovOf : Nat → List NE → List (Nat × NE)
  | _, [] => []
  | j, x :: xs => (j, x) :: ovOf (j + 1) xs
def shiftN (n : Nat) : List (Nat × NE) → List (Nat × NE)
  | [] => []
  | (j, x) :: r => (n + j, x) :: shiftN n r
def allLt (n : Nat) : List (Nat × NE) → Prop
  | [] => True
  | (j, _) :: r => j < n ∧ allLt n r
def uptoN {α : Type} (n : Nat) (f g : Nat → α) : Nat → α := fun j => if j < n then f j else g (j - n)

def byteAt (b : ByteArray) (n : Int) : Int := ((b.data.toList.getD n.toNat 0).toNat : Int)
def opN (T : TT) (kb : Nat) (o : Oper) (s : LS) : Option (Prop × LS) := match o.op with
  | .index t x i => match T t with
    | some ti => match ti.k with
      | .str => match leval s x with
        | .d (.v (.string b)) => match leval s i with
          | .d (.v (.int _ n)) => some (0 ≤ n ∧ n < (b.size : Int), s.put o.dst (.d (.v (.int .u8 (byteAt b n)))))
          | _ => none
        | _ => none
      | _ => none
    | none => none
  | .buildSlice t len parts => match T t with
    | some ti => match ti.k with
      | .slice e => match T e with
        | some te => match te.k with
          | .slice ei => match T ei with
            | some tei => match lit1 s 0 parts.toList with
              | some xs => match mapO (neOf s ei tei.size) xs with
                | some nes => bif Nat.beq nes.length len && Nat.beq te.size 1 && Nat.ble 1 tei.size && Nat.ble len 16777216 then
                    some (True, { s with hp := upd s.hp kb (some (.nest e ei tei.size len (fun _ => 0) (fun _ _ => []) (ovOf 0 nes))) }.put o.dst (.row kb)) else none
                | none => none
              | none => none
            | none => none
          | _ => none
        | none => none
      | _ => none
    | none => none
  | .call { callee := .builtin .append, args, argTypes } => match args.toList, argTypes.toList with
    | [x, y], [t, t'] => bif Nat.beq t t' then (match leval s y with
      | .row k2 => match s.hp k2 with
        | some (.nest e2 ei2 sz2 n2 L2 f2 ov2) => match T t with
          | some ti => match ti.k with
            | .slice e => match T e with
              | some te => match leval s x with
                | .row k => match s.hp k with
                  | some (.nest e1 ei1 sz1 n1 L1 f1 ov1) => bif Nat.beq e e1 && Nat.beq e e2 && Nat.beq ei1 ei2 && Nat.beq sz1 sz2 && Nat.beq te.size 1 && !(Nat.beq k k2) then
                      some ((n1 + n2) * te.bytes ≤ 140737488355328 ∧ n1 + n2 ≤ 9223372036854775807 ∧ allLt n1 ov1, { s with hp := upd (upd (upd s.hp k none) k2 none) kb (some (.nest e ei1 sz1 (n1 + n2) (uptoN n1 L1 L2) (uptoN n1 f1 f2) (shiftN n1 ov2 ++ ov1))) }.put o.dst (.row kb)) else none
                  | _ => none
                | .d (.v (.slice none 0 0)) => bif Nat.beq e e2 && Nat.beq te.size 1 then
                      some (n2 * te.bytes ≤ 140737488355328 ∧ n2 ≤ 9223372036854775807, { s with hp := upd (upd s.hp k2 none) kb (some (.nest e ei2 sz2 n2 L2 f2 ov2)) }.put o.dst (.row kb)) else none
                | _ => none
              | none => none
            | _ => none
          | none => none
        | _ => none
      | _ => none) else none
    | _, _ => none
  | _ => none

theorem lookN_ovOf : ∀ (l : List NE) (j i : Nat), lookN (ovOf j l) (j + i) = l[i]?
  | [], j, i => by simp [ovOf, lookN]
  | x :: l, j, i => by
    simp only [ovOf, lookN]
    cases i with
    | zero => simp [Nat.beq_refl]
    | succ i =>
      have h1 : Nat.beq (j + (i + 1)) j = false := by rw [← Bool.not_eq_true, Nat.beq_eq]; omega
      rw [h1, cond_false, show j + (i + 1) = j + 1 + i by omega, lookN_ovOf l (j + 1) i]
      simp
theorem lookN_app : ∀ (a b : List (Nat × NE)) (i : Nat), lookN (a ++ b) i = match lookN a i with | some e => some e | none => lookN b i
  | [], b, i => by simp [lookN]
  | (j, x) :: a, b, i => by
    simp only [List.cons_append, lookN]
    cases Nat.beq i j with
    | true => rfl
    | false => simpa using lookN_app a b i
theorem lookN_shift (n : Nat) : ∀ (a : List (Nat × NE)) (i : Nat), lookN (shiftN n a) i = if i < n then none else lookN a (i - n)
  | [], i => by simp [shiftN, lookN]
  | (j, x) :: a, i => by
    simp only [shiftN, lookN, lookN_shift n a i]
    by_cases h : i < n
    · have h1 : Nat.beq i (n + j) = false := by rw [← Bool.not_eq_true, Nat.beq_eq]; omega
      simp [h1, h]
    · simp only [h, if_false]
      by_cases h2 : i - n = j
      · have h1 : Nat.beq i (n + j) = true := by rw [Nat.beq_eq]; omega
        simp [h1, h2, Nat.beq_refl]
      · have h1 : Nat.beq i (n + j) = false := by rw [← Bool.not_eq_true, Nat.beq_eq]; omega
        have h3 : Nat.beq (i - n) j = false := by rw [← Bool.not_eq_true, Nat.beq_eq]; exact h2
        simp [h1, h3]
theorem lookN_lt : ∀ {n : Nat} {a : List (Nat × NE)} {i : Nat}, allLt n a → n ≤ i → lookN a i = none
  | n, [], i, _, _ => rfl
  | n, (j, x) :: a, i, h, hi => by
    simp only [lookN]
    have h1 : Nat.beq i j = false := by rw [← Bool.not_eq_true, Nat.beq_eq]; have := h.1; omega
    rw [h1, cond_false]
    exact lookN_lt h.2 hi
theorem nOf_app {n1 : Nat} {L1 L2 : Nat → Nat} {f1 f2 : Nat → Nat → List D} {ov1 ov2 : List (Nat × NE)} (h : allLt n1 ov1) (i : Nat) :
    nOf (uptoN n1 L1 L2) (uptoN n1 f1 f2) (shiftN n1 ov2 ++ ov1) i = if i < n1 then nOf L1 f1 ov1 i else nOf L2 f2 ov2 (i - n1) := by
  unfold nOf
  rw [lookN_app, lookN_shift]
  by_cases hi : i < n1
  · simp only [hi, if_true, uptoN]
  · simp only [hi, if_false, uptoN]
    cases hl : lookN ov2 (i - n1) with
    | some e => rfl
    | none => simp only [lookN_lt h (show n1 ≤ i by omega)]

section
variable {P : Program} {T : TT} {O : Nat → Prop} {nt : Nat} {ρ : Nat → Option Value} {I : Nat → Prop} {s : LS} {a : Act} {w : World} {kb : Nat} {o : Oper} {p : Prop} {s' : LS}

theorem lit1_sound (hR : Rel O nt ρ I s a w) : ∀ (parts : List (Nat × Operand)) (j : Nat) (ls : List LV) (us : Array Value), lit1 s j parts = some ls → j + ls.length ≤ us.size →
    ∃ us', Instr.fill (fun i => some (i * 1, 1)) us (parts.map fun x => (x.1, a.eval x.2)) = some us' ∧ us'.size = us.size ∧ (∀ q, q < j → us'.getD q undef = us.getD q undef) ∧
      ∀ i, i < ls.length → VR ρ w I (ls.getD i .bad) (us'.getD (j + i) undef) ∧ (us'.getD (j + i) undef).oneCell' = true
  | [], j, ls, us, h, hf => by
    obtain rfl : [] = ls := by simpa [lit1] using h
    exact ⟨us, rfl, rfl, fun _ _ => rfl, fun i hi => absurd hi (by simp)⟩
  | (i, x) :: rest, j, ls, us, h, hf => by
    simp only [lit1] at h
    obtain ⟨hij, h1⟩ := bif_some h
    clear h
    rw [Bool.and_eq_true] at hij
    obtain rfl : i = j := by simpa using hij.1
    have hok := hij.2
    split at h1 <;> (try (simp at h1; done))
    rename_i l hl
    obtain rfl := Option.some.inj h1
    have hv := leval_sound hR x
    have h1c := okCell_one hv hok
    have hcu : (a.eval x).cells = #[a.eval x] := by
      generalize a.eval x = u at h1c
      cases u <;> simp_all [Value.cells, Value.oneCell']
    have hlt : i < us.size := by simp at hf; omega
    generalize hus1 : us.setIfInBounds i (a.eval x) = us1
    have hs1 : us1.size = us.size := by rw [← hus1]; simp
    obtain ⟨us', k1, k2, k3, k4⟩ := lit1_sound hR rest (i + 1) l us1 hl (by rw [hs1]; simp at hf; omega)
    have g1 : ∀ q, us1.getD q undef = if q = i then a.eval x else us.getD q undef := by
      intro q
      rw [← hus1]
      exact getD_set us i q _ hlt
    refine ⟨us', ?_, by rw [k2, hs1], fun q hq => ?_, fun i' hi' => ?_⟩
    · simp only [List.map_cons, Instr.fill]
      rw [if_neg (by rw [hcu]; simp; omega)]
      have : ((a.eval x).cells.zipIdx.foldl (fun (cs : Array Value) (x : Value × Nat) => cs.setIfInBounds (i * 1 + x.2) x.1) us) = us1 := by
        rw [hcu, ← hus1]; simp
      rw [this]
      exact k1
    · rw [k3 q (by omega), g1 q, if_neg (by omega)]
    · cases i' with
      | zero =>
        rw [Nat.add_zero, k3 i (by omega), g1 i, if_pos rfl]
        exact ⟨by simpa using hv, h1c⟩
      | succ i' =>
        have := k4 i' (by simpa using hi')
        rw [show i + (i' + 1) = i + 1 + i' by omega]
        simpa using this

theorem neOf_sound {x : LV} {u : Value} (hx : VR ρ w I x u) {ei : TypeId} {sz : Nat} {ne : NE} (h : neOf s ei sz x = some ne) : NEok ρ w I ei sz u ne ∧ ∀ m f, ne ≠ .own m f := by
  unfold neOf at h
  split at h <;> (try (simp at h; done))
  · rename_i k
    split at h <;> (try (simp at h; done))
    replace h := bif_some h
    obtain ⟨_, h⟩ := h
    obtain rfl := Option.some.inj h
    cases hx with
    | row hρ hv => exact ⟨hρ, fun _ _ => by simp⟩
  · obtain rfl := Option.some.inj h
    exact ⟨VR.data hx, fun _ _ => by simp⟩

/-- rows of rows, one behind another -/
theorem nest_app (hT : TOk P T) {x y : Operand} {t : TypeId} (ho : o.op = .call { callee := .builtin .append, args := #[x, y], argTypes := #[t, t] }) (hR : Rel O nt ρ I s a w) (hd : ∀ d, o.dst = some d → d < nt) (hkb : ρ kb = none) (hO : ∀ g, w.heap.size ≤ g → O g)
    {ti te : TI} {e : TypeId} (ht : T t = some ti) (hk : ti.k = .slice e) (hte : T e = some te) (hs1 : te.size = 1) {k2 : Nat} (hly : leval s y = .row k2) {ei : TypeId} {sz n2 : Nat} {L2 : Nat → Nat} {f2 : Nat → Nat → List D} {ov2 : List (Nat × NE)} (hk2 : s.hp k2 = some (.nest e ei sz n2 L2 f2 ov2))
    {n1 : Nat} {L1 : Nat → Nat} {f1 : Nat → Nat → List D} {ov1 : List (Nat × NE)} {v : Value} {xs : List Value} {hp0 : Nat → Option Ent} (hax : a.eval x = v) (hown : w.ownsRow 0 e 1 v n1 xs) (hone : ∀ u ∈ xs, u.oneCell' = true)
    (hne : ∀ i, i < n1 → NEok ρ w I ei sz (xs.getD i undef) (nOf L1 f1 ov1 i))
    (hdd : ∀ i j m m' h h' b, i < n1 → j < n1 → nOf L1 f1 ov1 i = .own m h → nOf L1 f1 ov1 j = .own m' h' → blk (xs.getD i undef) = some b → blk (xs.getD j undef) = some b → i = j)
    (hbb : ∀ i m h b, i < n1 → nOf L1 f1 ov1 i = .own m h → blk (xs.getD i undef) = some b → blk v ≠ some b)
    (hle : ∀ k e, hp0 k = some e → s.hp k = some e ∧ k ≠ k2)
    (hfree : ∀ g, (blk v = some g ∨ ∃ i m h, i < n1 ∧ nOf L1 f1 ov1 i = .own m h ∧ blk (xs.getD i undef) = some g) → ¬ I g ∧ O g ∧ g < w.heap.size ∧ (∀ i e' u, hp0 i = some e' → ρ i = some u → ¬ foot w u e' g) ∧ ∀ v2, ρ k2 = some v2 → ¬ foot w v2 (.nest e ei sz n2 L2 f2 ov2) g)
    (hb : (n1 + n2) * te.bytes ≤ 140737488355328) (h63 : n1 + n2 ≤ 9223372036854775807) (hal : allLt n1 ov1) :
    Does P O nt ρ I kb o s ({ s with hp := upd hp0 kb (some (.nest e ei sz (n1 + n2) (uptoN n1 L1 L2) (uptoN n1 f1 f2) (shiftN n1 ov2 ++ ov1))) }.put o.dst (.row kb)) a w := by
  have hu := slice_at hT ht hk
  obtain ⟨i2, d2, z2, hi2, hu2, hz2, hsz2, hby2, hc2, hl2, hkk2⟩ := (hT e te hte).ex
  have hzs : z2.cells.size = 1 := by rw [hc2]; simpa [hs1] using hl2
  rw [hs1] at hsz2
  have hy := leval_sound hR y
  rw [hly] at hy
  obtain ⟨z0, v2, ys, y1, y2, y3, y4, y5, y6⟩ := hR.hp k2 _ hk2
  have run : ∀ v' w', (Builtin.append_ #[t, t] o.type #[a.eval x, a.eval y]).run P w = .ok v' w' → (execOp a.eval o).run P w = .ok (.value v') w' := by
    intro v' w' hr
    simp only [execOp, ho, resolve, invoke, builtin, List.map_toArray, List.map_cons, List.map_nil, hr, Sem.run_bind, Result.andThen_ok, Sem.run_pure]
  generalize hay : a.eval y = vy at hy
  have hvy : vy = v2 := by
    cases hy with
    | row hρ hv => exact (Option.some.inj (y1.symm.trans hρ)).symm
  subst hvy
  have hvs : ∃ A n c, v = .slice A n c := by rcases hown.2 with ⟨rfl, _⟩ | ⟨g0, cap, cur, rfl, _⟩ <;> exact ⟨_, _, _, rfl⟩
  have hxl : xs.length = n1 := by have := hown.1; omega
  have hyl : ys.length = n2 := by have := y2.1; omega
  have hob : v.ownBlock = blk v := by obtain ⟨A', n', c', rfl⟩ := hvs; cases A' <;> rfl
  have fin : ∀ (v' : Value) (w' : World), (Builtin.append_ #[t, t] o.type #[v, vy]).run P w = .ok v' w' → w'.ownsRow 0 e 1 v' (n1 + n2) (xs ++ ys) → w.grownBy w' v.ownBlock → (blk v' = blk v ∨ blk v' = some w.heap.size) →
      Does P O nt ρ I kb o s ({ s with hp := upd hp0 kb (some (.nest e ei sz (n1 + n2) (uptoN n1 L1 L2) (uptoN n1 f1 f2) (shiftN n1 ov2 ++ ov1))) }.put o.dst (.row kb)) a w := by
    intro v' w' hr hown' hgr hloc
    have hv's : ∃ A n c, v' = .slice A n c := by rcases hown'.2 with ⟨rfl, _⟩ | ⟨g0, cap, cur, rfl, _⟩ <;> exact ⟨_, _, _, rfl⟩
    have hlt : ∀ g, blk v' = some g → g < w'.heap.size := by
      intro g hg
      refine (hown'.lt g ?_).2
      obtain ⟨A', n', c', rfl⟩ := hv's
      cases A' <;> exact hg
    have hkeep : ∀ b, I b → w'.heap[b]? = w.heap[b]? := fun b hb => hgr.block b (hR.lt b hb) (fun hbv => (hfree b (.inl (by rw [hob] at hbv; exact hbv.symm))).1 hb)
    have hE : Ext ρ (upd ρ kb (some v')) := Ext.upd hkb _
    -- an element of what comes out
    have el : ∀ i, i < n1 + n2 → (i < n1 ∧ (xs ++ ys).getD i undef = xs.getD i undef) ∨ (¬ i < n1 ∧ i - n1 < n2 ∧ (xs ++ ys).getD i undef = ys.getD (i - n1) undef) := by
      intro i hi
      by_cases h : i < n1
      · exact .inl ⟨h, by simp [List.getD, List.getElem?_append, hxl, h]⟩
      · exact .inr ⟨h, by omega, by simp [List.getD, List.getElem?_append, hxl, h]⟩
    -- blocks of own elements
    have own1 : ∀ i m h b, i < n1 → nOf L1 f1 ov1 i = .own m h → blk (xs.getD i undef) = some b → ¬ I b ∧ O b ∧ b < w.heap.size ∧ some b ≠ blk v ∧ (∀ i e' u, hp0 i = some e' → ρ i = some u → ¬ foot w u e' b) ∧ ¬ foot w vy (.nest e ei sz n2 L2 f2 ov2) b := by
      intro i m h b hi hn hbk
      obtain ⟨q1, q2, q3, q4, q5⟩ := hfree b (.inr ⟨i, m, h, hi, hn, hbk⟩)
      exact ⟨q1, q2, q3, fun e => hbb i m h b hi hn hbk e.symm, q4, q5 _ y1⟩
    have own2 : ∀ i m h b, i < n2 → nOf L2 f2 ov2 i = .own m h → blk (ys.getD i undef) = some b → foot w vy (.nest e ei sz n2 L2 f2 ov2) b ∧ ¬ I b ∧ O b ∧ b < w.heap.size ∧ some b ≠ blk v ∧ (∀ i e' u, hp0 i = some e' → ρ i = some u → ¬ foot w u e' b) := by
      intro i m h b hi hn hbk
      have hf : foot w vy (.nest e ei sz n2 L2 f2 ov2) b := .inr ⟨i, m, h, _, hi, hn, ownsRow_cellAt y2 hi, hbk⟩
      obtain ⟨q1, q2, q3⟩ := hR.ow k2 _ _ b hk2 y1 hf
      exact ⟨hf, q1, q2, q3, fun e => (hfree b (.inl e.symm)).2.2.2.2 _ y1 hf, fun i' e' u hi' hu' hf' => (hle i' e' hi').2 (hR.ds i' k2 e' _ u vy b (hle i' e' hi').1 hk2 hu' y1 hf' hf)⟩
    have hER : ER (upd ρ kb (some v')) w' I kb (.nest e ei sz (n1 + n2) (uptoN n1 L1 L2) (uptoN n1 f1 f2) (shiftN n1 ov2 ++ ov1)) := by
      refine ⟨z0, v', xs ++ ys, upd_same _ _ _, hown', fun u hu => ?_, fun i hi => ?_, fun i j m m' h h' b hi hj a1 a2 b1 b2 => ?_, fun i m h b hi a1 b1 hbv => ?_⟩
      · rcases List.mem_append.1 hu with hu | hu
        · exact hone u hu
        · exact y3 u hu
      · rw [nOf_app hal]
        rcases el i hi with ⟨h1, h2⟩ | ⟨h1, h3, h2⟩
        · rw [if_pos h1, h2]
          exact (hne i h1).mono hE (fun _ hb => hb) hkeep (fun m f g hn hbk => hgr.block g (own1 i m f g h1 hn hbk).2.2.1 (by rw [hob]; exact (own1 i m f g h1 hn hbk).2.2.2.1))
        · rw [if_neg h1, h2]
          exact (y4 _ h3).mono hE (fun _ hb => hb) hkeep (fun m f g hn hbk => hgr.block g (own2 _ m f g h3 hn hbk).2.2.2.1 (by rw [hob]; exact (own2 _ m f g h3 hn hbk).2.2.2.2.1))
      · rw [nOf_app hal] at a1 a2
        rcases el i hi with ⟨h1, h2⟩ | ⟨h1, h3, h2⟩ <;> rcases el j hj with ⟨j1, j2⟩ | ⟨j1, j3, j2⟩
        · rw [if_pos h1] at a1; rw [if_pos j1] at a2; rw [h2] at b1; rw [j2] at b2
          exact hdd i j _ _ _ _ b h1 j1 a1 a2 b1 b2
        · rw [if_pos h1] at a1; rw [if_neg j1] at a2; rw [h2] at b1; rw [j2] at b2
          exact absurd (own2 _ _ _ b j3 a2 b2).1 (own1 i _ _ b h1 a1 b1).2.2.2.2.2
        · rw [if_neg h1] at a1; rw [if_pos j1] at a2; rw [h2] at b1; rw [j2] at b2
          exact absurd (own2 _ _ _ b h3 a1 b1).1 (own1 j _ _ b j1 a2 b2).2.2.2.2.2
        · rw [if_neg h1] at a1; rw [if_neg j1] at a2; rw [h2] at b1; rw [j2] at b2
          have := y5 _ _ _ _ _ _ b h3 j3 a1 a2 b1 b2
          omega
      · rw [nOf_app hal] at a1
        have hnb : b < w.heap.size ∧ some b ≠ blk v := by
          rcases el i hi with ⟨h1, h2⟩ | ⟨h1, h3, h2⟩
          · rw [if_pos h1] at a1; rw [h2] at b1
            have := own1 i _ _ b h1 a1 b1
            exact ⟨this.2.2.1, this.2.2.2.1⟩
          · rw [if_neg h1] at a1; rw [h2] at b1
            have := own2 _ _ _ b h3 a1 b1
            exact ⟨this.2.2.2.1, this.2.2.2.2.1⟩
        rcases hloc with hl | hl
        · rw [hl] at hbv; exact hnb.2 hbv.symm
        · rw [hl] at hbv; have := Option.some.inj hbv; omega
    obtain ⟨q1, q2⟩ := app_rel hR (fun k e h => (hle k e h).1) (fun g hg => ⟨(hfree g (.inl hg)).1, (hfree g (.inl hg)).2.1, (hfree g (.inl hg)).2.2.2.1⟩) hkb hO hgr hloc hv's hlt hER hvs (fun g hg => by
      rcases hg with hg | ⟨i, m, h, u, hi, hn, hc, hbk⟩
      · exact .inl hg
      · right
        rw [nOf_app hal] at hn
        obtain rfl := Option.some.inj (hc.symm.trans (ownsRow_cellAt hown' hi))
        rcases el i hi with ⟨h1, h2⟩ | ⟨h1, h3, h2⟩
        · rw [if_pos h1] at hn; rw [h2] at hbk
          have := own1 i _ _ g h1 hn hbk
          exact ⟨this.1, this.2.1, this.2.2.1, this.2.2.2.2.1⟩
        · rw [if_neg h1] at hn; rw [h2] at hbk
          have := own2 _ _ _ g h3 hn hbk
          exact ⟨this.2.1, this.2.2.1, this.2.2.2.1, this.2.2.2.2.2⟩)
    exact ⟨LS.put_nx _ _ _, LS.put_lo _ _ _, _, v', w', _, I, run v' w' (by rw [hax, hay]; exact hr), .inl rfl, q1.put hd (.row (by rw [upd_same]) hv's), hE, fun k hk => upd_ne _ _ hk, fun _ hb => hb, fun _ hb => .inl hb, hkeep, q2⟩
  have hvy2 : (vy = .slice none 0 0 ∧ n2 = 0) ∨ ∃ ad c, vy = .slice (some ad) n2 c ∧ ∀ j u, ys[j]? = some u → w.cell? (ad.add j) = some u := by
    rcases y2.2 with ⟨h1, h2⟩ | ⟨g0, cap, cur, rfl, _⟩
    · exact .inl ⟨h1, h2⟩
    · exact .inr ⟨_, _, rfl, fun j u hj => y2.cells (g := g0) rfl j u hj⟩
  rcases hvy2 with ⟨rfl, rfl⟩ | ⟨ad, c, rfl, hcells⟩
  · have hys : ys = [] := List.eq_nil_of_length_eq_zero hyl
    subst hys
    have hr : (Builtin.append_ #[t, t] o.type #[v, .slice none 0 0]).run P w = .ok v w := by
      rcases hown.2 with ⟨rfl, rfl⟩ | ⟨g0, cap, cur, rfl, _, _, hnc, _⟩
      · simp [Builtin.append_, run_underlying hu, sizeOf, typeInfo, hi2, Builtin.lenOf, Builtin.firstCells]
      · simp [Builtin.append_, run_underlying hu, sizeOf, typeInfo, hi2, Builtin.lenOf, Builtin.firstCells, hnc, storeCells]
    exact fin v w hr (by simpa using hown) ⟨rfl, rfl, rfl, Nat.le_refl _, fun _ _ _ => rfl⟩ (.inl rfl)
  · have hmax : n1 + n2 ≤ maxLen := by simp only [maxLen]; omega
    have hnl : ys.length = n2 * 1 := by omega
    obtain ⟨v', w', hr, hown', hgr, hnil⟩ := run_append_own (P := P) w 0 t o.type e i2 z2 1 te.bytes hu hi2 hz2 hsz2 hby2 hzs (by omega) v n1 xs hown ad n2 c ys hnl hcells y3 hmax hb (Nat.zero_le _)
    have hloc := app_loc (P := P) (w := w) t o.type e i2 z2 1 te.bytes hu hi2 hz2 hsz2 hby2 v n1 xs hown ad n2 c ys hnl hcells y3 hmax hb hr hnil
    exact fin v' w' hr hown' hgr hloc

theorem opN_sound (hT : TOk P T) (h : opN T kb o s = some (p, s')) (hp : p) (hR : Rel O nt ρ I s a w) (hd : ∀ d, o.dst = some d → d < nt) (hkb : ρ kb = none) (hO : ∀ g, w.heap.size ≤ g → O g) : Does P O nt ρ I kb o s s' a w := by
  unfold opN at h
  split at h <;> (try (simp at h; done))
  · rename_i t x i ho
    split at h <;> (try (simp at h; done))
    rename_i ti ht
    split at h <;> (try (simp at h; done))
    rename_i hk
    split at h <;> (try (simp at h; done))
    rename_i b hlx
    split at h <;> (try (simp at h; done))
    rename_i k n hli
    simp only [Option.some.injEq, Prod.mk.injEq] at h
    obtain ⟨rfl, rfl⟩ := h
    obtain ⟨i2, d2, z2, hi2, hu2, hz2, hsz2, hby2, hc2, hl2, hk2⟩ := (hT t ti ht).ex
    rw [hk] at hk2
    have hu : P.underlying t = some .string := by rw [hu2]; exact congrArg some hk2
    have hx := leval_sound hR x
    have hi := leval_sound hR i
    rw [hlx] at hx
    rw [hli] at hi
    have ex : a.eval x = .string b := by
      generalize a.eval x = vx at hx
      cases hx with | d h => cases h; rfl
    have ei : a.eval i = .int k n := by
      generalize a.eval i = vi at hi
      cases hi with | d h => cases h; rfl
    have e : byteAt b n = ((b[n.toNat]'(by have := hp; omega)).toNat : Int) := by
      have hlt : n.toNat < b.size := by have := hp; omega
      unfold byteAt
      have h2 : n.toNat < b.data.toList.length := by simpa using hlt
      rw [show b.data.toList.getD n.toNat 0 = b.data.toList[n.toNat] by simp [List.getD, List.getElem?_eq_getElem h2]]
      rfl
    rw [e]
    exact Does.value hR hd (by simp only [execOp, ho, ex, ei, Sem.run_bind, Sem.run_pure, Go.run_index_string w t b k n hu, dif_pos hp, Result.andThen_ok]) (.d (.v _))
  · rename_i t len parts ho
    split at h <;> (try (simp at h; done))
    rename_i ti ht
    split at h <;> (try (simp at h; done))
    rename_i e hk
    have hu := slice_at hT ht hk
    split at h <;> (try (simp at h; done))
    rename_i te hte
    obtain ⟨i2, d2, z2, hi2, hu2, hz2, hsz2, hby2, hc2, hl2, hk2⟩ := (hT e te hte).ex
    split at h <;> (try (simp at h; done))
    rename_i ei hkei
    split at h <;> (try (simp at h; done))
    rename_i tei htei
    split at h <;> (try (simp at h; done))
    rename_i xs hxs
    split at h <;> (try (simp at h; done))
    rename_i nes hnes
    obtain ⟨hc, h1⟩ := bif_some h
    clear h
    simp only [Option.some.injEq, Prod.mk.injEq] at h1
    obtain ⟨rfl, rfl⟩ := h1
    simp only [Bool.and_eq_true] at hc
    obtain ⟨⟨⟨c1, c2⟩, c3⟩, c4⟩ := hc
    have hlen : nes.length = len := by simpa using c1
    have h1s : te.size = 1 := by simpa using c2
    have h2s : 1 ≤ tei.size := by simpa using c3
    have hsm : len ≤ 16777216 := by simpa using c4
    subst hlen
    obtain ⟨m1, m2⟩ := mapO_get hnes
    rw [h1s] at hsz2
    generalize hini : ((Array.range (nes.length * 1)).map (z2.cells[· % z2.cells.size]!)) = us0
    have hus0 : us0.size = nes.length := by rw [← hini]; simp
    have hini3 : nes.length * 1 = 0 → ((Array.range (nes.length * 1)).map ((#[] : Array Value)[· % (#[] : Array Value).size]!)) = us0 := by
      intro h0
      rw [← hini, h0]; simp
    obtain ⟨us', k1, k2, k3, k4⟩ := lit1_sound hR parts.toList 0 xs us0 hxs (by rw [Nat.zero_add, hus0, m1]; exact Nat.le_refl _)
    have hus' : us'.size = nes.length * 1 := by rw [k2, hus0, Nat.mul_one]
    have hrow : (w.alloc (.cells us' e)).ownsRow 0 e 1 (.slice (some ⟨w.heap.size, 0, none⟩) nes.length nes.length) nes.length us'.toList := World.ownsRow_lit w us' nes.length (Nat.zero_le _) (by simp only [maxLen]; omega) hus'
    have hge : ∀ q, q < nes.length → us'.toList.getD q undef = us'.getD q undef := by
      intro q hq
      have : q < us'.size := by omega
      simp [Array.getD, List.getD, this]
    have hkeep : ∀ b, b < w.heap.size → (w.alloc (.cells us' e)).heap[b]? = w.heap[b]? := fun b hb => Below.heap_alloc _ _ _ hb
    have hno : ∀ i, i < nes.length → nOf (fun _ => 0) (fun _ _ => []) (ovOf 0 nes) i = nes.getD i .any := by
      intro i hi
      unfold nOf
      have := lookN_ovOf nes 0 i
      rw [Nat.zero_add] at this
      rw [this, List.getElem?_eq_getElem hi]
      simp [List.getD, List.getElem?_eq_getElem hi]
    have hnx : ∀ i, i < nes.length → NEok ρ w I ei tei.size (us'.getD i undef) (nes.getD i .any) ∧ (∀ m f, nes.getD i .any ≠ .own m f) ∧ (us'.getD i undef).oneCell' = true := by
      intro i hi
      have hi' : i < xs.length := by omega
      obtain ⟨y, hy1, hy2⟩ := m2 i _ (get_of_lt hi' .bad)
      have := k4 i hi'
      rw [Nat.zero_add] at this
      rw [getD_some hy1]
      obtain ⟨q1, q2⟩ := neOf_sound this.1 hy2
      exact ⟨q1, q2, this.2⟩
    refine ⟨LS.put_nx _ _ _, LS.put_lo _ _ _, _, .slice (some ⟨w.heap.size, 0, none⟩) nes.length nes.length, w.alloc (.cells us' e), upd ρ kb (some (.slice (some ⟨w.heap.size, 0, none⟩) nes.length nes.length)), I, ?_, .inl rfl, (hR.newEnt hkb (o := .cells us' e) (fun g hg => ?_) (hO _ (Nat.le_refl _)) ?_).put hd (.row (by rw [upd_same]) ⟨_, _, _, rfl⟩), Ext.upd hkb _, fun k hk => upd_ne _ _ hk, fun _ hb => hb, fun _ hb => .inl hb, fun b hb => Below.heap_alloc _ _ _ (hR.lt b hb), Step.alloc _ _ _⟩
    · have hfill : Instr.fill (fun i => some (i * 1, 1)) us0 (parts.map fun x => (x.1, a.eval x.2)).toList = some us' := by simpa using k1
      have hn : ¬ nes.length * 1 > 2 ^ 24 := by omega
      simp only [execOp, ho, Instr.buildSlice, run_underlying hu, run_sizeOf' hi2, hsz2, if_neg hn, Sem.run_bind, Sem.run_pure, Result.andThen_ok]
      by_cases h0 : nes.length * 1 = 0
      · simp only [if_pos h0, Sem.run_bind, Sem.run_pure, Result.andThen_ok, hini3 h0, hfill, run_newRow]
      · simp only [if_neg h0, run_zero hi2 hz2, Sem.run_bind, Sem.run_pure, Result.andThen_ok, hini, hfill, run_newRow]
    · rcases hg with hg | ⟨j, m, f, u, hj, n1, c1, b1⟩
      · exact (Option.some.inj hg).symm
      · rw [hno j hj] at n1
        exact absurd n1 ((hnx j hj).2.1 _ _)
    · refine ⟨h2s, _, us'.toList, upd_same _ _ _, hrow, fun u hu3 => ?_, fun j hj => ?_, fun j j' m m' f f' b hj hj' n1 _ _ _ => ?_, fun j m f b hj n1 _ => ?_⟩
      · obtain ⟨q, hq, rfl⟩ := List.getElem_of_mem hu3
        have hq' : q < nes.length := by rw [Array.length_toList] at hq; omega
        have := (hnx q hq').2.2
        rw [← hge q hq'] at this
        simpa [List.getD, List.getElem?_eq_getElem hq] using this
      · rw [hno j hj, hge j hj]
        exact (hnx j hj).1.mono (Ext.upd hkb _) (fun _ hb => hb) (fun b hb => hkeep b (hR.lt b hb)) (fun m f g hn _ => absurd hn ((hnx j hj).2.1 _ _))
      · rw [hno j hj] at n1
        exact absurd n1 ((hnx j hj).2.1 _ _)
      · rw [hno j hj] at n1
        exact absurd n1 ((hnx j hj).2.1 _ _)
  · rename_i args ts ho
    split at h <;> (try (simp at h; done))
    rename_i x y t t' hargs hts
    replace h := bif_some h
    obtain ⟨htt, h⟩ := h
    obtain rfl : t = t' := by simpa using htt
    obtain rfl : args = #[x, y] := by cases args; simp_all
    obtain rfl : ts = #[t, t] := by cases ts; simp_all
    split at h <;> (try (simp at h; done))
    rename_i k2 hly
    split at h <;> (try (simp at h; done))
    rename_i e2 ei2 sz2 n2 L2 f2 ov2 hk2
    split at h <;> (try (simp at h; done))
    rename_i ti ht
    split at h <;> (try (simp at h; done))
    rename_i e hk
    split at h <;> (try (simp at h; done))
    rename_i te hte
    have hx := leval_sound hR x
    split at h <;> (try (simp at h; done))
    · rename_i k hlx
      split at h <;> (try (simp at h; done))
      rename_i e1 ei1 sz1 n1 L1 f1 ov1 hk1
      obtain ⟨hc, h1⟩ := bif_some h
      clear h
      simp only [Bool.and_eq_true] at hc
      obtain ⟨⟨⟨⟨⟨c1, c2⟩, c3⟩, c4⟩, c5⟩, c6⟩ := hc
      obtain rfl : e = e1 := by simpa using c1
      obtain rfl : e = e2 := by simpa using c2
      obtain rfl : ei1 = ei2 := by simpa using c3
      obtain rfl : sz1 = sz2 := by simpa using c4
      have hs1 : te.size = 1 := by simpa using c5
      have hne : k ≠ k2 := by rintro rfl; simp [Nat.beq_refl] at c6
      simp only [Option.some.injEq, Prod.mk.injEq] at h1
      obtain ⟨rfl, rfl⟩ := h1
      obtain ⟨hb, h63, hal⟩ := hp
      rw [hlx] at hx
      obtain ⟨z0, v, xs, y1, y2, y3, y4, y5, y6⟩ := hR.hp k _ hk1
      generalize hax : a.eval x = vx at hx
      have hvx : vx = v := by
        cases hx with
        | row hρ hv => exact (Option.some.inj (y1.symm.trans hρ)).symm
      subst hvx
      have hle : ∀ j e', upd (upd s.hp k none) k2 none j = some e' → s.hp j = some e' ∧ j ≠ k2 ∧ j ≠ k := by
        intro j e' hj
        by_cases h2 : j = k2
        · subst h2; simp [upd_same] at hj
        · rw [upd_ne _ _ h2] at hj
          by_cases h3 : j = k
          · subst h3; simp [upd_same] at hj
          · rw [upd_ne _ _ h3] at hj
            exact ⟨hj, h2, h3⟩
      refine nest_app hT ho hR hd hkb hO ht hk hte hs1 hly hk2 (hp0 := upd (upd s.hp k none) k2 none) hax y2 y3 y4 y5 y6 (fun j e' hj => ⟨(hle j e' hj).1, (hle j e' hj).2.1⟩) (fun g hg => ?_) hb h63 hal
      have hf : foot w vx (.nest e ei1 sz1 n1 L1 f1 ov1) g := by
        rcases hg with hg | ⟨i, m, h, hi, hn, hbk⟩
        · exact .inl hg
        · exact .inr ⟨i, m, h, _, hi, hn, ownsRow_cellAt y2 hi, hbk⟩
      obtain ⟨q1, q2, q3⟩ := hR.ow k _ _ g hk1 y1 hf
      refine ⟨q1, q2, q3, fun i e' u hi' hu' hf' => (hle i e' hi').2.2 (hR.ds i k e' _ u vx g (hle i e' hi').1 hk1 hu' y1 hf' hf), fun v2 hv2 hf2 => hne (hR.ds k k2 _ _ vx v2 g hk1 hk2 y1 hv2 hf hf2)⟩
    · rename_i hlx
      obtain ⟨hc, h1⟩ := bif_some h
      clear h
      simp only [Bool.and_eq_true] at hc
      obtain rfl : e = e2 := by simpa using hc.1
      have hs1 : te.size = 1 := by simpa using hc.2
      simp only [Option.some.injEq, Prod.mk.injEq] at h1
      obtain ⟨rfl, rfl⟩ := h1
      obtain ⟨hb, h63⟩ := hp
      rw [hlx] at hx
      have hax := VR.atom hx
      have hle : ∀ j e', upd s.hp k2 none j = some e' → s.hp j = some e' ∧ j ≠ k2 := by
        intro j e' hj
        by_cases h2 : j = k2
        · subst h2; simp [upd_same] at hj
        · rw [upd_ne _ _ h2] at hj
          exact ⟨hj, h2⟩
      have := nest_app (n1 := 0) (L1 := fun _ => 0) (f1 := fun _ _ => []) (ov1 := []) (xs := []) hT ho hR hd hkb hO ht hk hte hs1 hly hk2 (hp0 := upd s.hp k2 none) hax (World.ownsRow_nil w 0 e 1) (by simp) (fun i hi => absurd hi (by omega)) (fun i j _ _ _ _ _ hi => absurd hi (by omega)) (fun i _ _ _ hi => absurd hi (by omega)) hle (fun g hg => by
        rcases hg with hg | ⟨i, _, _, hi, _⟩
        · simp [blk] at hg
        · omega) (by simpa using hb) (by simpa using h63) trivial
      have e1 : ∀ ov : List (Nat × NE), shiftN 0 ov = ov := by
        intro ov
        induction ov with
        | nil => rfl
        | cons p r ih => simp [shiftN, ih]
      have e2 : ∀ (α : Type) (f g : Nat → α), uptoN 0 f g = g := by intro α f g; funext i; simp [uptoN]
      rw [Nat.zero_add, e1, List.append_nil, e2, e2] at this
      exact this

/-- all of these operations -/
def opX (P : Program) (T : TT) (lz : Bool) (kb : Nat) (o : Oper) (s : LS) : Option (Prop × LS) := match opM P kb o s with
  | some r => some r
  | none => match opC T lz kb o s with
    | some r => some r
    | none => match opN T kb o s with
      | some r => some r
      | none => opR T kb o s
theorem opX_sound (hT : TOk P T) {lz : Bool} (h : opX P T lz kb o s = some (p, s')) (hp : p) (hR : Rel O nt ρ I s a w) (hd : ∀ d, o.dst = some d → d < nt) (hkb : ρ kb = none) (hO : ∀ g, w.heap.size ≤ g → O g) : Does P O nt ρ I kb o s s' a w := by
  unfold opX at h
  split at h
  · rename_i r hr
    obtain rfl := Option.some.inj h
    exact opM_sound hr hp hR hd hkb hO
  split at h
  · rename_i r hr
    obtain rfl := Option.some.inj h
    exact opC_sound hT hr hp hR hd hkb hO
  split at h
  · rename_i r hr
    obtain rfl := Option.some.inj h
    exact opN_sound hT hr hp hR hd hkb hO
  · exact opR_sound hT h hp hR hd hkb hO
/-- an operation of these that turns nothing that was there -/
def opXr (o : Oper) : Bool := match o.op with
  | .slice _ _ _ _ _ => true
  | _ => false
theorem opX_keeps {lz : Bool} (h : opX P T lz kb o s = some (p, s')) (hr : opXr o = true) : s'.hp = s.hp := by
  unfold opXr at hr
  split at hr <;> (try (simp at hr; done))
  rename_i t x lo hi mx ho
  have h1 : opM P kb o s = none := by unfold opM; simp [ho]
  have h2 : opN T kb o s = none := by unfold opN; simp [ho]
  have h3 : opR T kb o s = none := by unfold opR; simp [ho]
  have hput : ∀ (s : LS) (dst : Option Tmp) (x : LV), (s.put dst x).hp = s.hp := by intro s dst x; cases dst <;> rfl
  unfold opX at h
  simp only [h1, h2, h3] at h
  unfold opC at h
  rw [ho] at h
  cases mx with
  | none =>
    simp only at h
    split at h <;> (try (simp at h; done))
    rename_i r hr
    obtain rfl := Option.some.inj h
    replace hr := bif_some hr
    obtain ⟨_, hr⟩ := hr
    split at hr <;> (try (simp at hr; done))
    split at hr <;> (try (simp at hr; done))
    split at hr <;> (try (simp at hr; done))
    split at hr <;> (try (simp at hr; done))
    split at hr <;> (try (simp at hr; done))
    replace hr := bif_some hr
    obtain ⟨_, hr⟩ := hr
    simp only [Option.some.injEq, Prod.mk.injEq] at hr
    rw [← hr.2]
    exact hput _ _ _
  | some mx =>
    cases hi with
    | none => simp at h
    | some hi =>
      simp only at h
      split at h <;> (try (simp at h; done))
      rename_i r hr
      obtain rfl := Option.some.inj h
      split at hr <;> (try (simp at hr; done))
      split at hr <;> (try (simp at hr; done))
      split at hr <;> (try (simp at hr; done))
      split at hr <;> (try (simp at hr; done))
      split at hr <;> (try (simp at hr; done))
      simp only [Option.some.injEq, Prod.mk.injEq] at hr
      rw [← hr.2]
      exact hput _ _ _
end
end Go.Proofs.YtojaakpnpdnbhaaGreatDoor.L
