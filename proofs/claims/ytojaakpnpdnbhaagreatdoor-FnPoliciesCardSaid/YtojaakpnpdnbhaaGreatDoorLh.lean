/- The operations of the symbolic logic are true of the machine's: make and append. -/
import Derived.Test.YtojaakpnpdnbhaaGreatDoorLg
import Derived.Laws.MakeOwn
set_option linter.unusedVariables false
set_option linter.unusedSimpArgs false
namespace Go.Proofs.YtojaakpnpdnbhaaGreatDoor.L
open Go.RowKit
section
variable {P : Program} {T : TT} {O : Nat → Prop} {nt : Nat} {ρ : Nat → Option Value} {I : Nat → Prop} {s : LS} {a : Act} {w : World} {kb : Nat} {o : Oper} {p : Prop} {s' : LS}

theorem okVal_one (v : Value) : okVal v = v.oneCell' := by cases v <;> rfl

theorem sound_makeSlice (hT : TOk P T) {t : TypeId} {x y : Operand} (ho : o.op = .makeSlice t x y) (h : opF T kb o s = some (p, s')) (hp : p) (hR : Rel O nt ρ I s a w) (hd : ∀ d, o.dst = some d → d < nt) (hkb : ρ kb = none) (hO : ∀ g, w.heap.size ≤ g → O g) : Does P O nt ρ I kb o s s' a w := by
  have hx := leval_sound hR x
  have hy := leval_sound hR y
  unfold opF at h
  simp only [ho] at h
  split at h <;> (try (simp at h; done))
  rename_i ti ht
  split at h <;> (try (simp at h; done))
  rename_i e hk
  have hu := slice_at hT ht hk
  split at h <;> (try (simp at h; done))
  rename_i te hte
  obtain ⟨i2, d2, z2, hi2, hu2, hz2, hsz2, hby2, hc2, hl2, hk2⟩ := (hT e te hte).ex
  split at h <;> (try (simp at h; done))
  rename_i k1 n k2 m hlx hly
  obtain ⟨hc, h1⟩ := bif_some h
  clear h
  simp only [Option.some.injEq, Prod.mk.injEq] at h1
  obtain ⟨rfl, rfl⟩ := h1
  rw [Bool.and_eq_true] at hc
  have h1s : 1 ≤ te.size := by simpa using hc.1
  have hz1 : ∀ u ∈ te.zero, u.oneCell' = true := fun u hu => by rw [← okVal_one]; exact List.all_eq_true.1 hc.2 u hu
  obtain ⟨rfl, h0, hb, h63⟩ := hp
  rw [hlx] at hx
  rw [hly] at hy
  have hx := VR.atom hx
  have hy := VR.atom hy
  have hrun := run_make (P := P) w t e i2 z2 hu hi2 hz2 k1 k2 m m h0 (Int.le_refl _) (by rw [hby2, Int.mul_comm]; omega) h63
  rw [hsz2] at hrun
  have hmz : z2.cells.size = te.size := by rw [hc2]; simpa using hl2
  have hget : ∀ q, q < m.toNat * te.size → (madeCells z2.cells (m.toNat * te.size)).toList.getD q undef = te.zero.getD (q % te.size) undef := by
    intro q hq
    have hq2 : q % te.size < te.zero.length := by rw [hl2]; exact Nat.mod_lt _ h1s
    simp [madeCells, List.getD, hq, hc2, hl2]
    rw [List.getElem?_eq_getElem hq2]
    simp [Array.getElem!_eq_getD, Array.getD, hq2, hl2]
  have hms : (madeCells z2.cells (m.toNat * te.size)).size = m.toNat * te.size := size_madeCells _ _
  have hrow : (w.alloc (.cells (madeCells z2.cells (m.toNat * te.size)) e)).ownsRow 0 e te.size (.slice (some ⟨w.heap.size, 0, none⟩) m.toNat m.toNat) m.toNat (madeCells z2.cells (m.toNat * te.size)).toList :=
    World.ownsRow_lit w _ m.toNat (Nat.zero_le _) (by simp only [maxLen]; omega) hms
  refine Does.made hR hd hkb hO (ob := .cells (madeCells z2.cells (m.toNat * te.size)) e) (v := .slice (some ⟨w.heap.size, 0, none⟩) m.toNat m.toNat) ?_ rfl rfl ?_ (.row (by rw [upd_same]) ⟨_, _, _, rfl⟩)
  · simp only [execOp, ho, hx, hy, hrun, Sem.run_bind, Sem.run_pure, Result.andThen_ok]
  · refine ⟨h1s, _, _, by rw [upd_same], hrow, ?_, fun i hi => by simpa using hl2, fun i q hi hq => ?_⟩
    · intro u hu3
      obtain ⟨q, hq, rfl⟩ := List.getElem_of_mem hu3
      have hq' : q < m.toNat * te.size := by simpa [hms] using hq
      have := hget q hq'
      simp only [List.getD, List.getElem?_eq_getElem hq, Option.getD_some] at this
      rw [this]
      have hq2 : q % te.size < te.zero.length := by rw [hl2]; exact Nat.mod_lt _ h1s
      rw [List.getElem?_eq_getElem hq2, Option.getD_some]
      exact hz1 _ (List.getElem_mem hq2)
    · have hlt : i * te.size + q < m.toNat * te.size := by
        have : (i + 1) * te.size ≤ m.toNat * te.size := Nat.mul_le_mul_right _ hi
        rw [Nat.add_mul, Nat.one_mul] at this
        omega
      have hq2 : q < te.zero.length := by rw [hl2]; exact hq
      have e : (i * te.size + q) % te.size = q := by rw [Nat.mul_comm, Nat.mul_add_mod, Nat.mod_eq_of_lt hq]
      rw [hget _ hlt, e]
      simp only [List.getD, List.getElem?_map, List.getElem?_eq_getElem hq2, Option.map_some, Option.getD_some]
      exact .v _

/-- where what append makes lies -/
theorem app_loc (t ty e : TypeId) (i : TypeInfo) (z : Value) (size bytes : Nat) (ht : P.underlying t = some (.slice e)) (hi : P.info? e = some i) (hz : i.zero = some z)
    (hsize : i.size = size) (hby : i.bytes = bytes) (v : Value) (n : Nat) (xs : List Value) (hown : w.ownsRow 0 e size v n xs)
    (ad : Addr) (m c : Nat) (news : List Value) (hl : news.length = m * size) (hnews : ∀ j u, news[j]? = some u → w.cell? (ad.add j) = some u) (h1 : ∀ u ∈ news, u.oneCell' = true)
    (h63 : n + m ≤ maxLen) (hbytes : (n + m) * bytes ≤ 140737488355328) {v' : Value} {w' : World} (hr : (Builtin.append_ #[t, t] ty #[v, .slice (some ad) m c]).run P w = .ok v' w') (hv : v' = .slice none 0 0 ↔ v = .slice none 0 0 ∧ m = 0) :
    blk v' = blk v ∨ blk v' = some w.heap.size := by
  subst hsize
  subst hby
  have hsmall : n + m ≤ 9223372036854775807 := by simp only [maxLen] at h63; omega
  rcases hown.2 with ⟨rfl, rfl⟩ | ⟨g, cap, cur, rfl, hbg, hg, hnc, hcm, hcs, htake⟩
  · by_cases hm : m = 0
    · left; rw [hv.2 ⟨rfl, hm⟩]
    · right
      have h2 := run_append_nil (P := P) w t ty e i z ht hi hz ad m c news hl hnews (by omega) (by omega) (by have hb := hbytes; simp only [Nat.zero_add] at hb; omega)
      rw [h2] at hr
      injection hr with hr1 hr2
      rw [← hr1]
      rfl
  · by_cases hroom : n + m ≤ cap
    · left
      have hfit : n * i.size + news.length ≤ cur.size := by rw [hl, hcs, ← Nat.add_mul]; exact Nat.mul_le_mul_right _ hroom
      have h2 := run_append_room (P := P) w t ty e i ht hi g n cap cur hg ad m c news hl hnews h1 hroom hfit
      rw [h2] at hr
      injection hr with hr1 hr2
      rw [← hr1]
      rfl
    · right
      have h2 := run_append_grow (P := P) w t ty e i z ht hi hz ⟨g, 0, none⟩ n cap xs hown.1 (hown.cells (g := g) rfl) ad m c news hl hnews (by omega) (by omega) (growslice_fits (by omega) hbytes)
      rw [h2] at hr
      injection hr with hr1 hr2
      rw [← hr1]
      rfl

/-- a slice that is told, as it lies in memory -/
theorem slVal_sound (hR : Rel O nt ρ I s a w) {x : LV} {v : Value} (hx : VR ρ w I x v) {m : Nat} {g : Nat → List D} (h : slVal s x = some (m, g)) :
    ∃ A c, v = .slice A m c ∧ (m = 0 ∨ ∃ ad sz, ∃ vs : Nat → Nat → Value, A = some ad ∧ 0 < sz ∧ (∀ i, i < m → (g i).length = sz) ∧ (∀ i j, i < m → j < sz → w.cell? (ad.add (i * sz + j)) = some (vs i j)) ∧ (∀ i j, i < m → j < sz → (vs i j).oneCell' = true) ∧
      ∀ i j, i < m → j < sz → Rd w I ((g i).getD j (.v undef)) (vs i j)) := by
  unfold slVal at h
  split at h
  · simp only [Option.some.injEq, Prod.mk.injEq] at h
    obtain ⟨rfl, rfl⟩ := h
    have hx := VR.data hx
    cases hx with
    | nil f A c => exact ⟨_, _, rfl, .inl rfl⟩
    | l n f ad c sz vs h3 hc hI hs hz hl hv h4 hr => exact ⟨_, _, rfl, .inr ⟨ad, sz, vs, rfl, hz, hl, hv, h4, hr⟩⟩
  · simp only [Option.some.injEq, Prod.mk.injEq] at h
    obtain ⟨rfl, rfl⟩ := h
    exact ⟨_, _, VR.atom hx, .inl rfl⟩
  · rename_i k
    split at h <;> (try (simp at h; done))
    rename_i e sz n' f hk
    simp only [Option.some.injEq, Prod.mk.injEq] at h
    obtain ⟨rfl, rfl⟩ := h
    obtain ⟨h0, u, xs, h2, h3, h4, h5, h6⟩ := hR.hp k _ hk
    cases hx with
    | row hρ hv =>
      obtain rfl := Option.some.inj (h2.symm.trans hρ)
      rcases h3.2 with ⟨rfl, rfl⟩ | ⟨g0, cap, cur, rfl, _⟩
      · exact ⟨_, _, rfl, .inl rfl⟩
      · have hlt : ∀ i j, i < n' → j < sz → i * sz + j < xs.length := by
          intro i j hi hj
          have : (i + 1) * sz ≤ n' * sz := Nat.mul_le_mul_right _ hi
          rw [Nat.add_mul, Nat.one_mul] at this
          rw [h3.1]
          omega
        refine ⟨_, _, rfl, .inr ⟨⟨g0, 0, none⟩, sz, fun i j => xs.getD (i * sz + j) undef, rfl, h0, h5, fun i j hi hj => ?_, fun i j hi hj => ?_, h6⟩⟩
        · have := h3.cells (g := g0) rfl (i * sz + j) (xs.getD (i * sz + j) undef) (by simp [List.getD, List.getElem?_eq_getElem (hlt i j hi hj)])
          exact this
        · refine h4 _ ?_
          simp [List.getD, List.getElem?_eq_getElem (hlt i j hi hj)]
  · simp at h

/-- A slice's value is the call's own, and so is what was appended: it is told under a new name. -/
theorem app_rel (hR : Rel O nt ρ I s a w) {hp0 : Nat → Option Ent} (hle : ∀ k e, hp0 k = some e → s.hp k = some e) {v : Value} (hfree : ∀ g, blk v = some g → ¬ I g ∧ O g ∧ ∀ i e' u, hp0 i = some e' → ρ i = some u → ¬ foot w u e' g)
    (hkb : ρ kb = none) (hO : ∀ g, w.heap.size ≤ g → O g) {v' : Value} {w' : World} (hg : w.grownBy w' (v.ownBlock)) (hloc : blk v' = blk v ∨ blk v' = some w.heap.size) (hv' : ∃ A n c, v' = .slice A n c) (hlt : ∀ g, blk v' = some g → g < w'.heap.size) {e : Ent}
    (he : ER (upd ρ kb (some v')) w' I kb e) (hvs : ∃ A n c, v = .slice A n c) (hfe : ∀ g, foot w' v' e g → blk v' = some g ∨ (¬ I g ∧ O g ∧ g < w.heap.size ∧ ∀ i e' u, hp0 i = some e' → ρ i = some u → ¬ foot w u e' g)) :
    Rel O nt (upd ρ kb (some v')) I { s with hp := upd hp0 kb (some e) } a w' ∧ Step O w w' := by
  have hob : v.ownBlock = blk v := by obtain ⟨A, n, c, rfl⟩ := hvs; cases A <;> rfl
  rw [hob] at hg
  have h1 : Rel O nt ρ I { s with hp := hp0 } a w := hR.less hle
  have hsame : ∀ b, b < w.heap.size → some b ≠ blk v → w'.heap[b]? = w.heap[b]? := fun b hb hne => hg.block b hb hne
  have hused : ∀ b, (I b ∨ ∃ k e v, hp0 k = some e ∧ ρ k = some v ∧ foot w v e b) → w'.heap[b]? = w.heap[b]? := fun b hb => by
    refine hsame b (h1.usedLt hb) (fun hbv => ?_)
    obtain ⟨n1, n2, n3⟩ := hfree b hbv.symm
    rcases hb with hb | ⟨i, e', u, q1, q2, q3⟩
    · exact n1 hb
    · exact n3 i e' u q1 q2 q3
  have h2 : Rel O nt ρ I { s with hp := hp0 } a w' := h1.world hg.size hused
  have back : ∀ i e' u g, hp0 i = some e' → ρ i = some u → foot w' u e' g → foot w u e' g := fun i e' u g q1 q2 q3 => foot_same (fun b hb => hused b (.inr ⟨i, e', u, q1, q2, .inl hb⟩)) q3
  refine ⟨h2.addEnt hkb he (fun g hg' => ?_), ⟨hg.os, hg.tape, hg.output, hg.size, fun b hb hlt => hsame b hlt (fun hbv => hb (hfree b hbv.symm).2.1)⟩⟩
  rcases hfe g hg' with hg' | ⟨n1, n2, n0, n3⟩
  · rcases hloc with hl | hl
    · have hgv : blk v = some g := by rw [← hl]; exact hg'
      obtain ⟨n1, n2, n3⟩ := hfree g hgv
      exact ⟨n1, n2, hlt g hg', fun i e' u q1 q2 q3 => n3 i e' u q1 q2 (back i e' u g q1 q2 q3)⟩
    · rw [hl] at hg'
      obtain rfl := Option.some.inj hg'
      exact ⟨fun hb => absurd (hR.lt _ hb) (by omega), hO _ (Nat.le_refl _), hlt _ hl, fun i e' u q1 q2 q3 => absurd (h1.ow i e' u _ q1 q2 (back i e' u _ q1 q2 q3)).2.2 (by omega)⟩
  · exact ⟨n1, n2, Nat.lt_of_lt_of_le n0 hg.size, fun i e' u q1 q2 q3 => n3 i e' u q1 q2 (back i e' u g q1 q2 q3)⟩

theorem sound_append (hT : TOk P T) {args : Array Operand} {ts : Array TypeId} (ho : o.op = .call { callee := .builtin .append, args := args, argTypes := ts }) (h : opF T kb o s = some (p, s')) (hp : p) (hR : Rel O nt ρ I s a w) (hd : ∀ d, o.dst = some d → d < nt) (hkb : ρ kb = none) (hO : ∀ g, w.heap.size ≤ g → O g) : Does P O nt ρ I kb o s s' a w := by
  unfold opF at h
  simp only [ho] at h
  split at h <;> (try (simp at h; done))
  rename_i x y t t' hargs hts
  obtain ⟨htt, h0⟩ := bif_some h
  clear h
  obtain rfl : t = t' := by simpa using htt
  obtain rfl : args = #[x, y] := by cases args; simp_all
  obtain rfl : ts = #[t, t] := by cases ts; simp_all
  have hx := leval_sound hR x
  have hy := leval_sound hR y
  split at h0 <;> (try (simp at h0; done))
  rename_i ti ht
  split at h0 <;> (try (simp at h0; done))
  rename_i e hk
  have hu := slice_at hT ht hk
  split at h0 <;> (try (simp at h0; done))
  rename_i te hte
  obtain ⟨i2, d2, z2, hi2, hu2, hz2, hsz2, hby2, hc2, hl2, hk2⟩ := (hT e te hte).ex
  have hzs : z2.cells.size = te.size := by rw [hc2]; simpa using hl2
  split at h0 <;> (try (simp at h0; done))
  rename_i m g hsv
  obtain ⟨A, c, hay, hsrc⟩ := slVal_sound hR hy hsv
  have run : ∀ v' w', (Builtin.append_ #[t, t] o.type #[a.eval x, a.eval y]).run P w = .ok v' w' → (execOp a.eval o).run P w = .ok (.value v') w' := by
    intro v' w' hr
    simp only [execOp, ho, resolve, invoke, builtin, List.map_toArray, List.map_cons, List.map_nil, hr, Sem.run_bind, Result.andThen_ok, Sem.run_pure]
  -- the general step: the first slice is an own row v of n elements xs
  have key : ∀ (n : Nat) (f : Nat → List D) (v : Value) (xs : List Value) (hp0 : Nat → Option Ent), a.eval x = v → w.ownsRow 0 e te.size v n xs → (∀ u ∈ xs, u.oneCell' = true) → (∀ i, i < n → (f i).length = te.size) →
      (∀ i j, i < n → j < te.size → Rd w I ((f i).getD j (.v undef)) (xs.getD (i * te.size + j) undef)) → (∀ k e, hp0 k = some e → s.hp k = some e) → (∀ g, blk v = some g → ¬ I g ∧ O g ∧ ∀ i e' u, hp0 i = some e' → ρ i = some u → ¬ foot w u e' g) →
      1 ≤ te.size → (n + m) * te.bytes ≤ 140737488355328 → n + m ≤ 9223372036854775807 → (∀ i, i < m → (g i).length = te.size) →
      Does P O nt ρ I kb o s ({ s with hp := upd hp0 kb (some (.row e te.size (n + m) (upto n f g))) }.put o.dst (.row kb)) a w := by
    intro n f v xs hp0 hax hown hone hfl hfr hle hfree h1s hb h63 hgl
    have hvs : ∃ A n c, v = .slice A n c := by rcases hown.2 with ⟨rfl, _⟩ | ⟨g0, cap, cur, rfl, _⟩ <;> exact ⟨_, _, _, rfl⟩
    -- what comes behind
    have fin : ∀ (v' : Value) (w' : World) (news : List Value), (Builtin.append_ #[t, t] o.type #[v, a.eval y]).run P w = .ok v' w' → w'.ownsRow 0 e te.size v' (n + m) (xs ++ news) → w.grownBy w' v.ownBlock → (blk v' = blk v ∨ blk v' = some w.heap.size) →
        news.length = m * te.size → (∀ u ∈ news, u.oneCell' = true) → (∀ i j, i < m → j < te.size → Rd w I ((g i).getD j (.v undef)) (news.getD (i * te.size + j) undef)) →
        Does P O nt ρ I kb o s ({ s with hp := upd hp0 kb (some (.row e te.size (n + m) (upto n f g))) }.put o.dst (.row kb)) a w := by
      intro v' w' news hr hown' hgr hloc hnl hn1 hnr
      have hv's : ∃ A n c, v' = .slice A n c := by rcases hown'.2 with ⟨rfl, _⟩ | ⟨g0, cap, cur, rfl, _⟩ <;> exact ⟨_, _, _, rfl⟩
      have hlt : ∀ g, blk v' = some g → g < w'.heap.size := by
        intro g hg
        refine (hown'.lt g ?_).2
        obtain ⟨A', n', c', rfl⟩ := hv's
        cases A' <;> exact hg
      have hob : v.ownBlock = blk v := by obtain ⟨A', n', c', rfl⟩ := hvs; cases A' <;> rfl
      have hkeep : ∀ b, I b → w'.heap[b]? = w.heap[b]? := fun b hb => hgr.block b (hR.lt b hb) (fun hbv => (hfree b (by rw [hob] at hbv; exact hbv.symm)).1 hb)
      have hxl : xs.length = n * te.size := hown.1
      have hE : ER (upd ρ kb (some v')) w' I kb (.row e te.size (n + m) (upto n f g)) := by
        refine ⟨h1s, v', xs ++ news, by rw [upd_same], hown', fun u hu => ?_, fun i hi => ?_, fun i j hi hj => ?_⟩
        · rcases List.mem_append.1 hu with hu | hu
          · exact hone u hu
          · exact hn1 u hu
        · simp only [upto]
          split
          · exact hfl i ‹_›
          · exact hgl _ (by omega)
        · simp only [upto]
          split
          · rename_i hin
            have hlt2 : i * te.size + j < xs.length := by
              have : (i + 1) * te.size ≤ n * te.size := Nat.mul_le_mul_right _ hin
              rw [Nat.add_mul, Nat.one_mul] at this
              rw [hxl]; omega
            have e1 : (xs ++ news).getD (i * te.size + j) undef = xs.getD (i * te.size + j) undef := by simp [List.getD, List.getElem?_append, hlt2]
            rw [e1]
            exact (hfr i j hin hj).mono (fun _ hb => hb) hkeep
          · rename_i hin
            have hexp : i * te.size + j = n * te.size + ((i - n) * te.size + j) := by
              rw [← Nat.add_assoc, ← Nat.add_mul]
              congr 2
              omega
            have e1 : (xs ++ news).getD (i * te.size + j) undef = news.getD ((i - n) * te.size + j) undef := by
              rw [hexp]
              simp only [List.getD, List.getElem?_append, hxl]
              rw [if_neg (by omega)]
              congr 2
              omega
            rw [e1]
            exact (hnr (i - n) j (by omega) hj).mono (fun _ hb => hb) hkeep
      obtain ⟨q1, q2⟩ := app_rel hR hle hfree hkb hO hgr hloc hv's hlt hE hvs (fun g hg => .inl (foot_flat rfl hg))
      exact ⟨LS.put_nx _ _ _, LS.put_lo _ _ _, _, v', w', _, I, run v' w' (by rw [hax]; exact hr), .inl rfl, q1.put hd (.row (by rw [upd_same]) hv's), Ext.upd hkb _, fun k hk => upd_ne _ _ hk, fun _ hb => hb, fun _ hb => .inl hb, hkeep, q2⟩
    have general : ∀ (ad : Addr) (news : List Value), A = some ad → news.length = m * te.size → (∀ j u, news[j]? = some u → w.cell? (ad.add j) = some u) → (∀ u ∈ news, u.oneCell' = true) →
        (∀ i j, i < m → j < te.size → Rd w I ((g i).getD j (.v undef)) (news.getD (i * te.size + j) undef)) →
        Does P O nt ρ I kb o s ({ s with hp := upd hp0 kb (some (.row e te.size (n + m) (upto n f g))) }.put o.dst (.row kb)) a w := by
      intro ad news hA hl hnews hn1 hnr
      subst hA
      have hmax : n + m ≤ maxLen := by simp only [maxLen]; omega
      obtain ⟨v', w', hr, hown', hgr, hnil⟩ := run_append_own (P := P) w 0 t o.type e i2 z2 te.size te.bytes hu hi2 hz2 hsz2 hby2 hzs h1s v n xs hown ad m c news hl hnews hn1 hmax hb (Nat.zero_le _)
      have hloc := app_loc (P := P) (w := w) t o.type e i2 z2 te.size te.bytes hu hi2 hz2 hsz2 hby2 v n xs hown ad m c news hl hnews hn1 hmax hb hr hnil
      exact fin v' w' news (by rw [hay]; exact hr) hown' hgr hloc hl hn1 hnr
    rcases hsrc with hm0 | ⟨ad, sz, vs, hA, hz, hl, hv, h4, hr⟩
    · subst hm0
      cases A with
      | none =>
        have hc0 : a.eval y = .slice none 0 c := hay
        have hr : (Builtin.append_ #[t, t] o.type #[v, a.eval y]).run P w = .ok v w := by
          rw [hc0]
          rcases hown.2 with ⟨rfl, rfl⟩ | ⟨g0, cap, cur, rfl, _, _, hnc, _⟩
          · simp [Builtin.append_, run_underlying hu, sizeOf, typeInfo, hi2, Builtin.lenOf, Builtin.firstCells]
          · simp [Builtin.append_, run_underlying hu, sizeOf, typeInfo, hi2, Builtin.lenOf, Builtin.firstCells, hnc, storeCells]
        exact fin v w [] hr (by simpa using hown) ⟨rfl, rfl, rfl, Nat.le_refl _, fun _ _ _ => rfl⟩ (.inl rfl) (by simp) (by simp) (fun i j hi => absurd hi (by omega))
      | some ad => exact general ad [] rfl (by simp) (by simp) (by simp) (fun i j hi => absurd hi (by omega))
    · have hm1 : m = 0 ∨ sz = te.size := by
        rcases Nat.eq_zero_or_pos m with h | h
        · exact .inl h
        · right; rw [← hl 0 h, hgl 0 h]
      rcases hm1 with rfl | rfl
      · exact general ad [] hA (by simp) (by simp) (by simp) (fun i j hi => absurd hi (by omega))
      · have hq0 : ∀ q, q < m * te.size → q / te.size < m ∧ q % te.size < te.size := fun q hq => ⟨Nat.div_lt_of_lt_mul (by rw [Nat.mul_comm]; exact hq), Nat.mod_lt _ h1s⟩
        have hgt : ∀ q, q < m * te.size → ((List.range (m * te.size)).map fun q => vs (q / te.size) (q % te.size)).getD q undef = vs (q / te.size) (q % te.size) := by
          intro q hq
          simp [List.getD, hq]
        refine general ad ((List.range (m * te.size)).map fun q => vs (q / te.size) (q % te.size)) hA (by simp) (fun j u hj => ?_) (fun u hu3 => ?_) (fun i j hi hj => ?_)
        · have hlt : j < m * te.size := by
            rcases Nat.lt_or_ge j (m * te.size) with h | h
            · exact h
            · rw [List.getElem?_eq_none (by simpa using h)] at hj; simp at hj
          have : u = vs (j / te.size) (j % te.size) := by simpa [hlt] using hj.symm
          rw [this]
          have h5 := hv (j / te.size) (j % te.size) (hq0 j hlt).1 (hq0 j hlt).2
          rwa [Nat.mul_comm, Nat.div_add_mod] at h5
        · simp only [List.mem_map, List.mem_range] at hu3
          obtain ⟨q, hq, rfl⟩ := hu3
          exact h4 _ _ (hq0 q hq).1 (hq0 q hq).2
        · have hlt : i * te.size + j < m * te.size := by
            have : (i + 1) * te.size ≤ m * te.size := Nat.mul_le_mul_right _ hi
            rw [Nat.add_mul, Nat.one_mul] at this
            omega
          rw [hgt _ hlt]
          have e1 : (i * te.size + j) / te.size = i := by rw [Nat.mul_comm, Nat.mul_add_div h1s, Nat.div_eq_of_lt hj, Nat.add_zero]
          have e2 : (i * te.size + j) % te.size = j := by rw [Nat.mul_comm, Nat.mul_add_mod, Nat.mod_eq_of_lt hj]
          rw [e1, e2]
          exact hr i j hi hj
  split at h0 <;> (try (simp at h0; done))
  · rename_i k hlx
    split at h0 <;> (try (simp at h0; done))
    rename_i e' sz n f hkk
    obtain ⟨hcond, h1⟩ := bif_some h0
    clear h0
    simp only [Bool.and_eq_true] at hcond
    obtain ⟨⟨⟨hce, hcs⟩, hc1⟩, hck⟩ := hcond
    obtain rfl : e = e' := by simpa using hce
    obtain rfl : sz = te.size := by simpa using hcs
    have h1s : 1 ≤ te.size := by simpa using hc1
    simp only [Option.some.injEq, Prod.mk.injEq] at h1
    obtain ⟨rfl, rfl⟩ := h1
    obtain ⟨hb, h63, hgl⟩ := hp
    rw [hlx] at hx
    obtain ⟨q0, v, xs, q1, q2, q3, q4, q5⟩ := hR.hp k _ hkk
    generalize hax : a.eval x = vx at hx
    cases hx with
    | row hρ hvv =>
      obtain rfl := Option.some.inj (q1.symm.trans hρ)
      refine key n f v xs (upd s.hp k none) hax q2 q3 q4 q5 (fun k' e' hk' => ?_) (fun g0 hg0 => ?_) h1s hb h63 hgl
      · by_cases h : k' = k
        · subst h; simp [upd_same] at hk'
        · rwa [upd_ne _ _ h] at hk'
      · obtain ⟨r1, r2, r3⟩ := hR.ow k _ v g0 hkk q1 (.inl hg0)
        refine ⟨r1, r2, fun i' e' u hi' hu' hb' => ?_⟩
        by_cases h : i' = k
        · subst h; simp [upd_same] at hi'
        · rw [upd_ne _ _ h] at hi'
          exact h (hR.ds i' k e' _ u v g0 hi' hkk hu' q1 hb' (.inl hg0))
  · rename_i hlx
    obtain ⟨hcond, h1⟩ := bif_some h0
    clear h0
    have h1s : 1 ≤ te.size := by simpa using hcond
    simp only [Option.some.injEq, Prod.mk.injEq] at h1
    obtain ⟨rfl, rfl⟩ := h1
    obtain ⟨hb, h63, hgl⟩ := hp
    rw [hlx] at hx
    have hx := VR.atom hx
    have := key 0 (fun _ => []) (.slice none 0 0) [] s.hp hx (World.ownsRow_nil w 0 e te.size) (by simp) (fun i hi => absurd hi (by omega)) (fun i j hi => absurd hi (by omega)) (fun _ _ h => h) (fun g hg => by simp [blk] at hg) h1s (by simpa using hb) (by simpa using h63) hgl
    have e1 : (upto 0 (fun _ => []) g) = g := by funext j; simp [upto]
    rw [Nat.zero_add, e1] at this
    exact this
end
end Go.Proofs.YtojaakpnpdnbhaaGreatDoor.L
