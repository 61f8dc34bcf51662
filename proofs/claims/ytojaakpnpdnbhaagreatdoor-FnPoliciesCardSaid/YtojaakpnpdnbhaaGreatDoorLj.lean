/- Calls in the symbolic logic: what stands behind a call. -/
import Derived.Test.YtojaakpnpdnbhaaGreatDoorLi
set_option linter.unusedVariables false
set_option linter.unusedSimpArgs false
namespace Go.Proofs.YtojaakpnpdnbhaaGreatDoor.L
open Go.RowKit

def hpAfter (s : LS) (kb : Nat) (args : List LV) (r : RV) : Nat → Option Ent :=
  addOwn kb 0 r.leaves (bif r.leaves.any isSh then dropKeys (args.flatMap (keysOf s)) s.hp else s.hp)
def callS (s : LS) (kb : Nat) (dst : Option Tmp) (args : List LV) (r : RV) : LS := { s with hp := hpAfter s kb args r }.put dst (r.lv kb)

section
variable {P : Program} {T : TT} {O : Nat → Prop} {nt : Nat} {ρ : Nat → Option Value} {I : Nat → Prop} {s : LS} {a : Act} {w : World} {kb : Nat} {o : Oper}

theorem dropKeys_some : ∀ {ks : List Nat} {hp : Nat → Option Ent} {k : Nat} {e : Ent}, dropKeys ks hp k = some e → hp k = some e ∧ k ∉ ks
  | [], hp, k, e, h => ⟨h, by simp⟩
  | x :: xs, hp, k, e, h => by
    obtain ⟨h1, h2⟩ := dropKeys_some (ks := xs) h
    by_cases hx : k = x
    · subst hx; simp [upd_same] at h1
    · rw [upd_ne _ _ hx] at h1
      exact ⟨h1, by simp [hx, h2]⟩

theorem ownsRow_base {W : World} {b : Nat} {e : TypeId} {sz n : Nat} {v : Value} {xs : List Value} (h : W.ownsRow b e sz v n xs) : W.ownsRow 0 e sz v n xs := by
  obtain ⟨h1, h2⟩ := h
  exact ⟨h1, h2.imp id fun ⟨g, cap, cur, hv, hg, r⟩ => ⟨g, cap, cur, hv, Nat.zero_le _, r⟩⟩
theorem ownsRow_sl {W : World} {b : Nat} {e : TypeId} {sz n : Nat} {v : Value} {xs : List Value} (h : W.ownsRow b e sz v n xs) : ∃ A n c, v = .slice A n c := by
  rcases h.2 with ⟨rfl, _⟩ | ⟨g, cap, cur, rfl, _⟩ <;> exact ⟨_, _, _, rfl⟩
theorem ownsRow_blk {W : World} {b : Nat} {e : TypeId} {sz n : Nat} {v : Value} {xs : List Value} (h : W.ownsRow b e sz v n xs) {g : Nat} (hg : blk v = some g) : b ≤ g ∧ g < W.heap.size := by
  refine h.lt g ?_
  obtain ⟨A, n, c, rfl⟩ := ownsRow_sl h
  cases A <;> exact hg

theorem isOwn_ent {c : RC} (h : isOwn c = true) : ∃ e, entOf c = some e := by
  cases c <;> simp [isOwn] at h <;> exact ⟨_, rfl⟩
theorem RCok.own {W : World} {base : Nat} {J : Nat → Prop} {u : Value} {c : RC} {e : Ent} (h : RCok W base J u c) (he : entOf c = some e) : OwnOK W base J u e := by
  cases c <;> simp [entOf] at he <;> exact h _ (by rw [← he]; rfl)
theorem addOwns {W : World} {base : Nat} {us : List Value} (hOb : ∀ g, base ≤ g → O g) : ∀ (cs : List RC) (j : Nat) (hp0 : Nat → Option Ent) (ρ0 : Nat → Option Value), Rel O nt ρ0 I { s with hp := hp0 } a W →
    (∀ i c, cs[i]? = some c → RCok W base I (us.getD (j + i) undef) c) → (∀ i c e g, cs[i]? = some c → entOf c = some e → foot W (us.getD (j + i) undef) e g → ¬ I g) →
    (∀ i c e' g k e v, cs[i]? = some c → entOf c = some e' → foot W (us.getD (j + i) undef) e' g → hp0 k = some e → ρ0 k = some v → ¬ foot W v e g) →
    (∀ i i' c d e e' g, cs[i]? = some c → cs[i']? = some d → entOf c = some e → entOf d = some e' → foot W (us.getD (j + i) undef) e g → foot W (us.getD (j + i') undef) e' g → i = i') →
    (∀ i, i < cs.length → ρ0 (kb + (j + i)) = none) →
    ∃ ρ1, Rel O nt ρ1 I { s with hp := addOwn kb j cs hp0 } a W ∧ Ext ρ0 ρ1 ∧ (∀ k, (k < kb + j ∨ kb + j + cs.length ≤ k) → ρ1 k = ρ0 k) ∧ ∀ i c, cs[i]? = some c → isOwn c = true → ρ1 (kb + (j + i)) = some (us.getD (j + i) undef)
  | [], j, hp0, ρ0, hR, _, _, _, _, _ => ⟨ρ0, hR, Ext.refl _, fun _ _ => rfl, fun i c h => by simp at h⟩
  | c :: cs, j, hp0, ρ0, hR, h1, h2, h3, h4, h5 => by
    have shift : ∀ i, j + (i + 1) = j + 1 + i := by intro i; omega
    have keep : ∀ (hp1 : Nat → Option Ent) (ρ1 : Nat → Option Value), Rel O nt ρ1 I { s with hp := hp1 } a W → Ext ρ0 ρ1 → (∀ k, k ≠ kb + j → ρ1 k = ρ0 k) →
        (∀ i c e' g k e v, cs[i]? = some c → entOf c = some e' → foot W (us.getD (j + 1 + i) undef) e' g → hp1 k = some e → ρ1 k = some v → ¬ foot W v e g) → (isOwn c = true → ρ1 (kb + j) = some (us.getD j undef)) →
        (addOwn kb j (c :: cs) hp0 = addOwn kb (j + 1) cs hp1) →
        ∃ ρ1, Rel O nt ρ1 I { s with hp := addOwn kb j (c :: cs) hp0 } a W ∧ Ext ρ0 ρ1 ∧ (∀ k, (k < kb + j ∨ kb + j + (c :: cs).length ≤ k) → ρ1 k = ρ0 k) ∧ ∀ i d, (c :: cs)[i]? = some d → isOwn d = true → ρ1 (kb + (j + i)) = some (us.getD (j + i) undef) := by
      intro hp1 ρ1 hR1 hE1 hk1 hb1 hown heq
      obtain ⟨ρ2, q1, q2, q3, q4⟩ := addOwns hOb cs (j + 1) hp1 ρ1 hR1 (fun i d hd => by have := h1 (i + 1) d (by simpa using hd); rwa [shift] at this) (fun i d e g hd => by have := h2 (i + 1) d e g (by simpa using hd); rwa [shift] at this)
        hb1 (fun i i' d d' e e' g hd hd' o1 o2 => by
          have := h4 (i + 1) (i' + 1) d d' e e' g (by simpa using hd) (by simpa using hd') o1 o2
          rw [shift i, shift i'] at this
          intro b1 b2
          have := this b1 b2
          omega)
        (fun i hi => by
          have := h5 (i + 1) (by simpa using hi)
          rw [shift] at this
          rw [hk1 _ (by omega)]
          exact this)
      refine ⟨ρ2, by rw [heq]; exact q1, hE1.trans q2, fun k hk => ?_, fun i d hd ho => ?_⟩
      · simp only [List.length_cons] at hk
        rw [q3 k (by omega), hk1 k (by omega)]
      · cases i with
        | zero =>
          obtain rfl : c = d := by simpa using hd
          rw [Nat.add_zero]
          exact q2 _ _ (hown ho)
        | succ i =>
          have := q4 i d (by simpa using hd) ho
          rwa [← shift] at this
    have h3' : ∀ i d e' g k e v, cs[i]? = some d → entOf d = some e' → foot W (us.getD (j + 1 + i) undef) e' g → hp0 k = some e → ρ0 k = some v → ¬ foot W v e g := fun i d e' g k e v hd ho hg => by
      have := h3 (i + 1) d e' g k e v (by simpa using hd) ho
      rw [shift] at this
      exact this hg
    have add : ∀ e0, entOf c = some e0 → addOwn kb j (c :: cs) hp0 = addOwn kb (j + 1) cs (upd hp0 (kb + j) (some e0)) → ∃ ρ1, Rel O nt ρ1 I { s with hp := addOwn kb j (c :: cs) hp0 } a W ∧ Ext ρ0 ρ1 ∧ (∀ k, (k < kb + j ∨ kb + j + (c :: cs).length ≤ k) → ρ1 k = ρ0 k) ∧ ∀ i d, (c :: cs)[i]? = some d → isOwn d = true → ρ1 (kb + (j + i)) = some (us.getD (j + i) undef) := by
      intro e0 he0 heq
      have hfree := h5 0 (by simp)
      rw [Nat.add_zero] at hfree
      obtain ⟨r1, r2, r3⟩ := (h1 0 c rfl).own he0
      rw [Nat.add_zero] at r1 r2
      have hE : ER (upd ρ0 (kb + j) (some (us.getD j undef))) W I (kb + j) e0 := r1.at (entOf_closed he0) (fun v hv => by rw [upd_same]; exact hv)
      have hadd := hR.addEnt hfree hE (fun g hg => ⟨h2 0 c e0 g rfl he0 hg, hOb g (r2 g hg).1, (r2 g hg).2, fun i e' v' q1 q2 => h3 0 c e0 g i e' v' rfl he0 hg q1 q2⟩)
      refine keep (upd hp0 (kb + j) (some e0)) _ hadd (Ext.upd hfree _) (fun k hk => upd_ne _ _ hk) (fun i d e2 g k e' v hd ho hg hk hv => ?_) (fun _ => upd_same _ _ _) heq
      by_cases hkk : k = kb + j
      · subst hkk
        rw [upd_same] at hv hk
        obtain rfl := Option.some.inj hv
        obtain rfl := Option.some.inj hk
        intro hb
        have := h4 0 (i + 1) c d e0 e2 g rfl (by simpa using hd) he0 ho hb (by rw [shift]; exact hg)
        omega
      · rw [upd_ne _ _ hkk] at hk hv
        exact h3' i d e2 g k e' v hd ho hg hk hv
    cases c with
    | v x => exact keep hp0 ρ0 hR (Ext.refl _) (fun _ _ => rfl) h3' (fun h => by simp [isOwn] at h) rfl
    | sh x => exact keep hp0 ρ0 hR (Ext.refl _) (fun _ _ => rfl) h3' (fun h => by simp [isOwn] at h) rfl
    | own e sz n f => exact add _ rfl rfl
    | ownn eo ei sz n L f => exact add _ rfl rfl

theorem lf_sound {W : World} {base : Nat} {us : List Value} {ρ1 : Nat → Option Value} {c : RC} {j : Nat} (h1 : RCok W base I (us.getD j undef) c) (h2 : isOwn c = true → ρ1 (kb + j) = some (us.getD j undef)) : VR ρ1 W I (lf kb j c) (us.getD j undef) := by
  cases c with
  | v x => rw [show us.getD j undef = x from h1]; exact .d (.v x)
  | sh x => exact .d h1
  | own e sz n f => exact .row (h2 rfl) (h1.own rfl).2.2
  | ownn eo ei sz n L f => exact .row (h2 rfl) (h1.own rfl).2.2

theorem lfs_get (cs : List RC) : ∀ (j i : Nat), (lfs kb j cs)[i]? = (cs[i]?).map (lf kb (j + i)) := by
  induction cs with
  | nil => intro j i; simp [lfs]
  | cons c cs ih =>
    intro j i
    cases i with
    | zero => simp [lfs]
    | succ i =>
      simp only [lfs, List.getElem?_cons_succ, ih]
      rw [show j + 1 + i = j + (i + 1) by omega]
theorem lfs_len (cs : List RC) : ∀ j, (lfs kb j cs).length = cs.length := by
  induction cs with
  | nil => intro j; rfl
  | cons c cs ih => intro j; simp [lfs, ih]

theorem lv1_sound {W : World} {base : Nat} {us : List Value} {ρ1 : Nat → Option Value} (x : RV1) (j : Nat) (h1 : ∀ i c, x.leaves[i]? = some c → RCok W base I (us.getD (j + i) undef) c) (h2 : ∀ i c, x.leaves[i]? = some c → isOwn c = true → ρ1 (kb + (j + i)) = some (us.getD (j + i) undef)) :
    VR ρ1 W I (x.lv kb j) (x.val us j) := by
  cases x with
  | one c =>
    have q1 := h1 0 c (by simp [RV1.leaves])
    have q2 := h2 0 c (by simp [RV1.leaves])
    rw [Nat.add_zero] at q1 q2
    exact lf_sound q1 q2
  | agg cs =>
    refine .agg (by simp [lfs_len]) (fun i hi => ?_)
    rw [lfs_len] at hi
    have e1 : (lfs kb j cs).getD i .bad = lf kb (j + i) cs[i] := by simp [List.getD, lfs_get, hi]
    have e2 : (((List.range cs.length).map fun i => us.getD (j + i) undef).toArray).getD i undef = us.getD (j + i) undef := by simp [Array.getD, hi]
    rw [e1, e2]
    exact lf_sound (h1 i _ (by simp [RV1.leaves, hi])) (h2 i _ (by simp [RV1.leaves, hi]))

theorem tl_sound {W : World} {base : Nat} {us : List Value} {ρ1 : Nat → Option Value} : ∀ (xs : List RV1) (j : Nat), (∀ i c, (leavesT xs)[i]? = some c → RCok W base I (us.getD (j + i) undef) c) → (∀ i c, (leavesT xs)[i]? = some c → isOwn c = true → ρ1 (kb + (j + i)) = some (us.getD (j + i) undef)) →
    (tvals us j xs).length = (tlvs kb j xs).length ∧ ∀ q, q < (tlvs kb j xs).length → VR ρ1 W I ((tlvs kb j xs).getD q .bad) ((tvals us j xs).getD q undef)
  | [], j, _, _ => ⟨rfl, fun q hq => absurd hq (by simp [tlvs])⟩
  | x :: xs, j, h1, h2 => by
    have a1 : ∀ (i : Nat) (c : RC), x.leaves[i]? = some c → (leavesT (x :: xs))[i]? = some c := by
      intro i c hc
      have hi : i < x.leaves.length := by
        rcases Nat.lt_or_ge i x.leaves.length with h | h
        · exact h
        · simp [List.getElem?_eq_none h] at hc
      simp only [leavesT, List.getElem?_append]
      rw [if_pos hi]
      exact hc
    have a2 : ∀ (i : Nat) (c : RC), (leavesT xs)[i]? = some c → (leavesT (x :: xs))[x.leaves.length + i]? = some c := by
      intro i c hc
      simp only [leavesT, List.getElem?_append]
      rw [if_neg (by omega), Nat.add_sub_cancel_left]
      exact hc
    obtain ⟨q1, q2⟩ := tl_sound (base := base) xs (j + x.leaves.length) (fun i c hc => by have := h1 _ c (a2 i c hc); rwa [← Nat.add_assoc] at this) (ρ1 := ρ1) (fun i c hc ho => by have := h2 _ c (a2 i c hc) ho; rwa [← Nat.add_assoc j] at this)
    refine ⟨by simp [tvals, tlvs, q1], fun q hq => ?_⟩
    cases q with
    | zero => simpa [tvals, tlvs] using lv1_sound x j (fun i c hc => h1 i c (a1 i c hc)) (fun i c hc => h2 i c (a1 i c hc))
    | succ q => simpa [tvals, tlvs] using q2 q (by simpa [tlvs] using hq)

/-- Behind a call by value. -/
theorem call_rel0 (hR : Rel O nt ρ I s a w) (hO : ∀ g, w.heap.size ≤ g → O g) {args : List LV} {r : RV} {v : Value} {W : World} (hB : Below w.heap.size w W) (hrr : RR W w.heap.size (Used ρ w I s (args.flatMap (keysOf s))) r v)
    (hfree : ∀ i, i < r.leaves.length → ρ (kb + i) = none) :
    ∃ ρ' I', Rel O nt ρ' I' { s with hp := hpAfter s kb args r } a W ∧ VR ρ' W I' (r.lv kb) v ∧ Ext ρ ρ' ∧ (∀ k, (k < kb ∨ kb + r.leaves.length ≤ k) → ρ' k = ρ k) ∧ (∀ b, I b → I' b) ∧ (∀ b, I' b → I b ∨ O b) ∧ (∀ b, I b → W.heap[b]? = w.heap[b]?) ∧ Step O w W := by
  obtain ⟨us, J, hl, rfl, hJ, hok, hoj, hds⟩ := hrr.ex
  have hW : Rel O nt ρ I s a W := hR.world hB.size (fun b hb => hB.block b (hR.usedLt hb))
  have down : ∀ k e v g, s.hp k = some e → ρ k = some v → foot W v e g → foot w v e g := fun k e v g h1 h2 h3 => foot_same (fun b hb => hB.block b (hR.usedLt (.inr ⟨k, e, v, h1, h2, .inl hb⟩))) h3
  have up : ∀ k e v g, s.hp k = some e → ρ k = some v → foot w v e g → foot W v e g := fun k e v g h1 h2 h3 => foot_same (fun b hb => (hB.block b (hR.usedLt (.inr ⟨k, e, v, h1, h2, .inl hb⟩))).symm) h3
  generalize hks : args.flatMap (keysOf s) = ks at hJ
  -- the memory that is told behind the call, ahead of the new rows
  have hfin : ∃ hp0, (bif r.leaves.any isSh then dropKeys ks s.hp else s.hp) = hp0 ∧ Rel O nt ρ (fun b => I b ∨ J b) { s with hp := hp0 } a W := by
    cases hsh : r.leaves.any isSh with
    | true =>
      refine ⟨_, rfl, ?_⟩
      have h1 : Rel O nt ρ I { s with hp := dropKeys ks s.hp } a W := hW.less (fun k e he => (dropKeys_some he).1)
      refine h1.more (Ext.refl _) (fun b hb => .inl hb) (fun b hb => ?_) (fun k e u g he hu hg hb => ?_)
      · rcases hb with hb | hb
        · exact hW.lt b hb
        · rcases hJ b hb with ⟨_, hb | ⟨k, e, v, _, q1, q2, q3⟩⟩ | hb
          · exact hW.lt b hb
          · exact Nat.lt_of_lt_of_le (hR.ow k e v b q1 q2 q3).2.2 hB.size
          · exact hb.2
      · obtain ⟨he1, he2⟩ := dropKeys_some he
        have hlt := (hR.ow k e u g he1 hu (down k e u g he1 hu hg)).2.2
        rcases hb with hb | hb
        · exact (hW.ow k e u g he1 hu hg).1 hb
        · rcases hJ g hb with ⟨_, hb | ⟨k', e', v', hk', q1, q2, q3⟩⟩ | hb
          · exact (hW.ow k e u g he1 hu hg).1 hb
          · have := hW.ds k k' e e' u v' g he1 q1 hu q2 hg (up k' e' v' g q1 q2 q3)
            exact he2 (this ▸ hk')
          · omega
    | false =>
      refine ⟨_, rfl, ?_⟩
      have hJ2 : ∀ b, J b → w.heap.size ≤ b ∧ b < W.heap.size := fun b hb => by
        rcases hJ b hb with ⟨h, _⟩ | h
        · rw [hsh] at h; simp at h
        · exact h
      refine hW.more (Ext.refl _) (fun b hb => .inl hb) (fun b hb => ?_) (fun k e u g he hu hg hb => ?_)
      · rcases hb with hb | hb
        · exact hW.lt b hb
        · exact (hJ2 b hb).2
      · have hlt := (hR.ow k e u g he hu (down k e u g he hu hg)).2.2
        rcases hb with hb | hb
        · exact (hW.ow k e u g he hu hg).1 hb
        · have := (hJ2 g hb).1; omega
  obtain ⟨hp0, hhp, h1⟩ := hfin
  have hokI : ∀ i c, r.leaves[i]? = some c → RCok W w.heap.size (fun b => I b ∨ J b) (us.getD i undef) c := by
    intro i c hc
    have := hok i c hc
    cases c with
    | v x => exact this
    | sh x => exact Rd.mono this (fun _ hb => .inr hb) (fun _ _ => rfl)
    | own e sz n f => exact fun e0 he0 => ⟨(this.own he0).1.mono (Ext.refl _) (fun _ hb => .inr hb) (fun _ _ => rfl) (fun _ _ _ _ => rfl), (this.own he0).2⟩
    | ownn eo ei sz n L f => exact fun e0 he0 => ⟨(this.own he0).1.mono (Ext.refl _) (fun _ hb => .inr hb) (fun _ _ => rfl) (fun _ _ _ _ => rfl), (this.own he0).2⟩
  have hblk : ∀ i c e g, r.leaves[i]? = some c → entOf c = some e → foot W (us.getD i undef) e g → w.heap.size ≤ g := by
    intro i c e g hc ho hg
    exact (((hok i c hc).own ho).2.1 g hg).1
  obtain ⟨ρ1, r1, r2, r3, r4⟩ := addOwns (s := s) (kb := kb) (us := us) hO r.leaves 0 hp0 ρ h1 (fun i c hc => by rw [Nat.zero_add]; exact hokI i c hc)
    (fun i c e g hc ho hg => by
      rw [Nat.zero_add] at hg
      rintro (hb | hb)
      · have := hblk i c e g hc ho hg
        have := hR.lt g hb
        omega
      · exact hoj i c e g hc ho hg hb)
    (fun i c e' g k e u hc ho hg he hu hb => by
      rw [Nat.zero_add] at hg
      have := hblk i c e' g hc ho hg
      have hin : s.hp k = some e := by
        rw [← hhp] at he
        cases hsh : r.leaves.any isSh with
        | true => rw [hsh] at he; exact (dropKeys_some he).1
        | false => rw [hsh] at he; exact he
      have := (hR.ow k e u g hin hu (down k e u g hin hu hb)).2.2
      omega)
    (fun i i' c d e e' g hc hd o1 o2 b1 b2 => by
      rw [Nat.zero_add] at b1 b2
      exact hds i i' c d e e' g hc hd o1 o2 b1 b2)
    (fun i hi => by rw [Nat.zero_add]; exact hfree i hi)
  simp only [Nat.zero_add, Nat.add_zero] at r3 r4
  have hx : VR ρ1 W (fun b => I b ∨ J b) (r.lv kb) (r.val us) := by
    cases r with
    | r x => exact lv1_sound x 0 (fun i c hc => by rw [Nat.zero_add]; exact hokI i c hc) (fun i c hc ho => by rw [Nat.zero_add]; exact r4 i c hc ho)
    | tup xs =>
      obtain ⟨q1, q2⟩ := tl_sound (W := W) (base := w.heap.size) (us := us) (ρ1 := ρ1) (kb := kb) (I := fun b => I b ∨ J b) xs 0 (fun i c hc => by rw [Nat.zero_add]; exact hokI i c hc) (fun i c hc ho => by rw [Nat.zero_add]; exact r4 i c hc ho)
      refine .tup (by simpa using q1) (fun j hj => ?_)
      have := q2 j hj
      have h6 : j < (tvals us 0 xs).length := by rw [q1]; exact hj
      simpa [Array.getD, List.getD, h6] using this
  have him : ∀ b, (I b ∨ J b) → I b ∨ O b := by
    rintro b (hb | hb)
    · exact .inl hb
    · rcases hJ b hb with ⟨_, hb | ⟨k, e, v, _, q1, q2, q3⟩⟩ | hb
      · exact .inl hb
      · exact .inr (hR.ow k e v b q1 q2 q3).2.1
      · exact .inr (hO b hb.1)
  refine ⟨ρ1, fun b => I b ∨ J b, ?_, hx, r2, r3, fun b hb => Or.inl hb, him, fun b hb => hB.block b (hR.lt b hb), ⟨hB.os, hB.tape, hB.output, hB.size, fun b hb hlt => hB.block b hlt⟩⟩
  have hcs : ({ s with hp := hpAfter s kb args r } : LS) = { s with hp := addOwn kb 0 r.leaves hp0 } := by
    unfold hpAfter
    rw [hks, hhp]
  rw [hcs]
  exact r1
theorem call_rel (hR : Rel O nt ρ I s a w) (hO : ∀ g, w.heap.size ≤ g → O g) {args : List LV} {r : RV} {v : Value} {W : World} (hB : Below w.heap.size w W) (hrr : RR W w.heap.size (Used ρ w I s (args.flatMap (keysOf s))) r v)
    (hfree : ∀ i, i < r.leaves.length → ρ (kb + i) = none) (hd : ∀ d, o.dst = some d → d < nt) :
    ∃ ρ' I', Rel O nt ρ' I' (callS s kb o.dst args r) (a.put o.dst v) W ∧ Ext ρ ρ' ∧ (∀ k, (k < kb ∨ kb + r.leaves.length ≤ k) → ρ' k = ρ k) ∧ (∀ b, I b → I' b) ∧ (∀ b, I' b → I b ∨ O b) ∧ (∀ b, I b → W.heap[b]? = w.heap[b]?) ∧ Step O w W := by
  obtain ⟨ρ', I', h1, h2, h3⟩ := call_rel0 (kb := kb) hR hO hB hrr hfree
  exact ⟨ρ', I', h1.put hd h2, h3⟩
end
end Go.Proofs.YtojaakpnpdnbhaaGreatDoor.L
