/- Regions that draw their order: whatever the order. -/
import Derived.Test.YtojaakpnpdnbhaaGreatDoorLp
set_option linter.unusedVariables false
set_option linter.unusedSimpArgs false
namespace Go.Proofs.YtojaakpnpdnbhaaGreatDoor.L
open Go.RowKit
section
variable {P : Program} {T : TT} {O : Nat → Prop} {nt : Nat}

def nUn (S : Nat → Bool) : Nat → Nat
  | 0 => 0
  | m + 1 => nUn S m + bif S m then 0 else 1
theorem nUn_zero {S : Nat → Bool} : ∀ {m : Nat}, nUn S m = 0 → ∀ j, j < m → S j = true
  | 0, _, j, hj => by omega
  | m + 1, h, j, hj => by
    simp only [nUn] at h
    cases hs : S m with
    | false => rw [hs] at h; simp at h
    | true =>
      rcases Nat.lt_or_ge j m with h' | h'
      · exact nUn_zero (by omega) j h'
      · rw [show j = m by omega]; exact hs
theorem nUn_add {S : Nat → Bool} {i : Nat} (hS : S i = false) : ∀ {m : Nat}, i < m → nUn (addS S i) m + 1 = nUn S m
  | 0, h => by omega
  | m + 1, h => by
    simp only [nUn]
    by_cases hm : m = i
    · subst hm
      have same : ∀ q, q ≤ m → nUn (addS S m) q = nUn S q := by
        intro q
        induction q with
        | zero => intro _; rfl
        | succ q ih => intro hq; simp only [nUn, ih (by omega), addS_ne S (show q ≠ m by omega)]
      rw [same m (Nat.le_refl _), addS_self, hS]
      simp
    · have := nUn_add hS (m := m) (by omega)
      rw [addS_ne _ hm]
      omega

def wrT (ops : Array Oper) (i t : Nat) : Bool := match ops[i]? with
  | some o => match o.dst with
    | some d => Nat.beq d t
    | none => false
  | none => false
def wrK (nx0 : Nat) (tr : List (Bool × List Nat)) (i k : Nat) : Bool := ((tr.getD i (false, [])).1 && isIn (tr.getD i (false, [])).2 k) || blkOf (nx0 + 32 * i) k

/-- what all is told when those of S have run -/
def curS (ops : Array Oper) (nx0 : Nat) (st : Nat → LS) (tr : List (Bool × List Nat)) (S : Nat → Bool) : LS :=
  ⟨fun t => curN (fun i t => (st i).fr t) (wrT ops) S ops.size t, fun k => curN (fun i k => (st i).hp k) (wrK nx0 tr) S ops.size k, (st 0).nx, (st 0).lo⟩

theorem LS.ext' {s t : LS} (h1 : ∀ i, s.fr i = t.fr i) (h2 : ∀ i, s.hp i = t.hp i) (h3 : s.nx = t.nx) (h4 : s.lo = t.lo) : s = t := by
  obtain ⟨a, b, c, d⟩ := s
  obtain ⟨a', b', c', d'⟩ := t
  simp only at *
  rw [show a = a' from funext h1, show b = b' from funext h2, h3, h4]

theorem region_any (hT : TOk P T) {ops : Array Oper} {nx0 : Nat} (hok : okD ops (masks ops) = true) (hdst : ∀ o ∈ ops.toList, ∀ d, o.dst = some d → d < nt) {K : LS → Prop} {s0 : LS} (h : opsD P T ops nx0 ops.toList 0 s0 [] K)
    (hnx : nx0 + 32 * ops.size ≤ s0.nx) (hlo : s0.lo ≤ nx0) {Q : Exit → Act → World → Prop} {ρ0 : Nat → Option Value} {I0 : Nat → Prop} {w0 : World} (hO0 : ∀ g, w0.heap.size ≤ g → O g)
    (hQ : ∀ s' ρ' I' a' w', K s' → Rel O nt ρ' I' s' a' w' → Fresh ρ' s'.nx → s'.nx = s0.nx → s'.lo = s0.lo → Tr O s0.lo ρ0 I0 w0 ρ' I' w' → Q .normal a' w')
    {a0 : Act} (hR0 : Rel O nt ρ0 I0 s0 a0 w0) (hF0 : Fresh ρ0 nx0) : wpAny P .any ops Q ops.size (Array.replicate ops.size false) a0 w0 := by
  obtain ⟨tr, ss, hch, htr, hK⟩ := opsD_chain ops.toList 0 s0 [] h
  simp only [List.nil_append] at htr
  obtain ⟨hl1, hl2, hstep⟩ := chain_spec hch
  simp only [Array.length_toList] at hl1 hl2
  generalize hst : (fun i => (s0 :: ss).getD i s0) = st at *
  have st0 : st 0 = s0 := by rw [← hst]; rfl
  have hKn : K (st ops.size) := by
    rw [← hst]
    have : (s0 :: ss).getLastD s0 = (s0 :: ss).getD ops.size s0 := by
      rw [List.getLastD_eq_getLast?, List.getLast?_eq_getElem?]
      simp [List.getD, hl2]
    show K ((s0 :: ss).getD ops.size s0)
    rw [← this]
    exact hK
  have hJ : ∀ i o, ops[i]? = some o → ∃ x, tr[i]? = some x ∧ JS P T ops nx0 i o (st i) x (st (i + 1)) := by
    intro i o ho
    have := hstep i o (by simpa using ho)
    rw [Nat.zero_add] at this
    rw [← hst]
    exact this
  -- what a step of text order does not write
  have hvT : ∀ t i, i < ops.size → wrT ops i t = false → (st (i + 1)).fr t = (st i).fr t := by
    intro t i hi hw
    obtain ⟨x, _, hjs⟩ := hJ i ops[i] (by simp [hi])
    have ho : ops[i]? = some ops[i] := by simp [hi]
    unfold wrT at hw
    rw [ho] at hw
    generalize ops[i] = o at *
    generalize st (i + 1) = s2 at *
    cases hjs with
    | run wr X s1 hg hop =>
      cases hd : o.dst with
      | none => simp only [merge]
      | some d =>
        simp only [hd] at hw
        simp only [merge]
        exact upd_ne _ _ (fun e => by rw [e] at hw; simp at hw)
    | skip hg =>
      cases hd : o.dst with
      | none => rfl
      | some d =>
        simp only [hd] at hw
        exact upd_ne _ _ (fun e => by rw [e] at hw; simp at hw)
  have hvK : ∀ k i, i < ops.size → wrK nx0 tr i k = false → (st (i + 1)).hp k = (st i).hp k := by
    intro k i hi hw
    obtain ⟨x, hx, hjs⟩ := hJ i ops[i] (by simp [hi])
    unfold wrK at hw
    rw [show tr.getD i (false, []) = x by simp [List.getD, hx]] at hw
    generalize ops[i] = o at *
    generalize st (i + 1) = s2 at *
    cases hjs with
    | run wr X s1 hg hop => simp only [merge]; simp only at hw; rw [hw]; rfl
    | skip hg => rw [LS.put_hp]
  have hnxs : ∀ i, i ≤ ops.size → (st i).nx = s0.nx ∧ (st i).lo = s0.lo := by
    intro i
    induction i with
    | zero => intro _; rw [st0]; exact ⟨rfl, rfl⟩
    | succ i ih =>
      intro hi
      obtain ⟨x, hx, hjs⟩ := hJ i ops[i] (by simp [show i < ops.size by omega])
      have := ih (by omega)
      generalize st (i + 1) = s2 at *
      cases hjs with
      | run wr X s1 hg hop => exact this
      | skip hg => rw [LS.put_nx, LS.put_lo]; exact this
  -- the walk through any order
  have go : ∀ (fuel : Nat) (listed : Array Bool) (S : Nat → Bool) (a : Act) (w : World), listed.size = ops.size → (∀ i, i < ops.size → listed.getD i true = S i ∧ listed.getD i false = S i) → (∀ i, ops.size ≤ i → S i = false) → nUn S ops.size ≤ fuel →
      (∀ i j, S i = true → bit (masks ops) i j = true → S j = true) →
      (∃ ρ I, Rel O nt ρ I (curS ops nx0 st tr S) a w ∧ Fresh ρ s0.nx ∧ (∀ j k, j < ops.size → S j = false → nx0 + 32 * j ≤ k → k < nx0 + 32 * j + 32 → ρ k = none) ∧ Tr O s0.lo ρ0 I0 w0 ρ I w) →
      wpAny P .any ops Q fuel listed a w := by
    have fin : ∀ (listed : Array Bool) (S : Nat → Bool) (a : Act) (w : World), (∀ i, i < ops.size → S i = true) →
        (∃ ρ I, Rel O nt ρ I (curS ops nx0 st tr S) a w ∧ Fresh ρ s0.nx ∧ (∀ j k, j < ops.size → S j = false → nx0 + 32 * j ≤ k → k < nx0 + 32 * j + 32 → ρ k = none) ∧ Tr O s0.lo ρ0 I0 w0 ρ I w) → Q .normal a w := by
      rintro listed S a w hall ⟨ρ, I, hR, hF, _, hTr⟩
      have e : curS ops nx0 st tr S = st ops.size := by
        have hn := hnxs ops.size (Nat.le_refl _)
        refine LS.ext' (fun t => ?_) (fun k => ?_) (by simp [curS, st0, hn.1]) (by simp [curS, st0, hn.2])
        · exact curN_agree (fun i hi hw => hvT t i hi hw) (Nat.le_refl _) (fun j hj _ => hall j hj) (fun j h1 h2 _ => absurd h1 (by omega))
        · exact curN_agree (fun i hi hw => hvK k i hi hw) (Nat.le_refl _) (fun j hj _ => hall j hj) (fun j h1 h2 _ => absurd h1 (by omega))
      rw [e] at hR
      have hn := hnxs ops.size (Nat.le_refl _)
      exact hQ _ ρ I a w hKn hR (by rw [hn.1]; exact hF) hn.1 hn.2 hTr
    intro fuel
    induction fuel with
    | zero =>
      intro listed S a w hsz hS hS2 hcnt hcl hinv
      have hall := nUn_zero (Nat.le_zero.1 hcnt)
      refine ⟨?_, fin listed S a w hall hinv⟩
      refine Classical.byContradiction fun hne => ?_
      obtain ⟨i, hi⟩ := List.exists_mem_of_ne_nil _ hne
      obtain ⟨q1, o, q2, _⟩ := mem_ready.1 hi
      have hi : i < ops.size := (Array.getElem?_eq_some_iff.1 q2).1
      rw [(hS i hi).1, hall i hi] at q1
      simp at q1
    | succ fuel ih =>
      intro listed S a w hsz hS hS2 hcnt hcl hinv
      refine ⟨fun hnone => fin listed S a w (fun i => ?_) hinv, fun i hi => ?_⟩
      · induction i using Nat.strongRecOn with
        | ind i ihi =>
          intro hi
          refine Classical.byContradiction fun hu => ?_
          have hu : S i = false := by simpa using hu
          have : i ∈ Region.ready .any ops listed := mem_ready.2 ⟨by rw [(hS i hi).1, hu], ops[i], by simp [hi], fun e he hb => by
            have := okD_back hok (show ops[i]? = some ops[i] by simp [hi]) he hb
            rw [(hS e.on (by omega)).2]
            exact ihi e.on this (by omega)⟩
          rw [hnone] at this
          simp at this
      · obtain ⟨q1, o, ho, q3⟩ := mem_ready.1 hi
        have hi : i < ops.size := (Array.getElem?_eq_some_iff.1 ho).1
        have hu : S i = false := by rw [← (hS i hi).1]; exact q1
        have hpre : ∀ j, bit (masks ops) i j = true → S j = true := by
          intro j hj
          obtain ⟨o', ho', e, he, hb, hor⟩ := masks_bit hj
          obtain rfl : o = o' := Option.some.inj (ho.symm.trans ho')
          have h1 := q3 e he hb
          have h2 := okD_back hok ho he hb
          rw [(hS e.on (by omega)).2] at h1
          rcases hor with rfl | hor
          · exact h1
          · exact hcl _ _ h1 hor
        have hcomp : ∀ j, comp (masks ops) i j = true ∨ comp (masks ops) j i = true → j ≠ i → (j < i → S j = true) ∧ (i < j → S j = false) := by
          intro j hc hne
          have hc : bit (masks ops) i j = true ∨ bit (masks ops) j i = true := by
            unfold comp at hc
            simp only [Bool.or_eq_true, Nat.beq_eq] at hc
            rcases hc with ((h | h) | h) | ((h | h) | h)
            · exact absurd h.symm hne
            · exact .inl h
            · exact .inr h
            · exact absurd h hne
            · exact .inr h
            · exact .inl h
          refine ⟨fun hlt => ?_, fun hlt => ?_⟩
          · rcases hc with h | h
            · exact hpre j h
            · have := bit_lt hok _ _ h; omega
          · rcases hc with h | h
            · have := bit_lt hok _ _ h; omega
            · cases hs : S j with
              | false => rfl
              | true => rw [hcl j i hs h] at hu; simp at hu
        obtain ⟨x, hx, hjs⟩ := hJ i o ho
        have htri := List.all_eq_true.1 htr
        have hX1 : ∀ k, k ∈ x.2 → k < nx0 ∨ bit (masks ops) i ((k - nx0) / 32) = true := by
          intro k hk
          have := htri i (by simp [hl1, hi])
          rw [hx] at this
          simp only [Bool.and_eq_true] at this
          have := List.all_eq_true.1 this.1 k hk
          rw [Bool.or_eq_true] at this
          exact this.imp (fun h => by have : k + 1 ≤ nx0 := by simpa [Nat.blt] using h
                                      omega) id
        have hX2 : ∀ j y, tr[j]? = some y → y.1 = true → ∀ k, k ∈ y.2 → (k < nx0 ∨ bit (masks ops) j ((k - nx0) / 32) = true) ∧ (k ∈ x.2 → comp (masks ops) j i = true) := by
          intro j y hy hy1 k hk
          have hj : j < tr.length := (List.getElem?_eq_some_iff.1 hy).1
          have := htri j (by simpa using hj)
          rw [hy] at this
          simp only [Bool.and_eq_true] at this
          have h1 := List.all_eq_true.1 this.1 k hk
          rw [Bool.or_eq_true] at h1
          refine ⟨h1.imp (fun h => by have : k + 1 ≤ nx0 := by simpa [Nat.blt] using h
                                      omega) id, fun hkx => ?_⟩
          have h2 := this.2
          rw [hy1] at h2
          simp only [Bool.not_true, Bool.false_or] at h2
          have := List.all_eq_true.1 h2 i (by simp [hl1, hi])
          rw [hx, Bool.or_eq_true] at this
          rcases this with h | h
          · exact h
          · have := List.all_eq_true.1 h k hk
            rw [isIn_iff.2 hkx] at this
            simp at this
        -- the places that it touches stand as in text order
        have hT1 : ∀ t, (t ∈ o.looksAt ops ∨ o.dst = some t) → ∀ j, j < ops.size → j ≠ i → wrT ops j t = true → (j < i → S j = true) ∧ (i < j → S j = false) := by
          intro t ht j hj hne hw
          unfold wrT at hw
          have hoj : ops[j]? = some ops[j] := by simp [hj]
          rw [hoj] at hw
          simp only at hw
          split at hw <;> (try (simp at hw; done))
          rename_i d hd
          obtain rfl : d = t := by simpa using hw
          exact hcomp j (.inr (okD_dst hok hoj hd ho ht)) hne
        have hK1 : ∀ k, (k ∈ x.2 ∨ blkOf (nx0 + 32 * i) k = true) → ∀ j, j < ops.size → j ≠ i → wrK nx0 tr j k = true → (j < i → S j = true) ∧ (i < j → S j = false) := by
          intro k hk j hj hne hw
          unfold wrK at hw
          obtain ⟨y, hy, -⟩ := hJ j ops[j] (by simp [hj])
          rw [show tr.getD j (false, []) = y by simp [List.getD, hy]] at hw
          simp only [Bool.or_eq_true, Bool.and_eq_true] at hw
          rcases hw with ⟨hw1, hw2⟩ | hw
          · have := hX2 j y hy hw1 k (isIn_iff.1 hw2)
            rcases hk with hk | hk
            · exact hcomp j (.inr (this.2 hk)) hne
            · rw [blkOf_iff] at hk
              rcases this.1 with h | h
              · omega
              · have e : (k - nx0) / 32 = i := by omega
                rw [e] at h
                exact hcomp j (.inr (by unfold comp; simp [h])) hne
          · rw [blkOf_iff] at hw
            rcases hk with hk | hk
            · rcases hX1 k hk with h | h
              · omega
              · have e : (k - nx0) / 32 = j := by omega
                rw [e] at h
                exact hcomp j (.inl (by unfold comp; simp [h])) hne
            · rw [blkOf_iff] at hk
              omega
        have agT : ∀ t, (t ∈ o.looksAt ops ∨ o.dst = some t) → (curS ops nx0 st tr S).fr t = (st i).fr t := fun t ht =>
          curN_agree (fun i hi hw => hvT t i hi hw) (Nat.le_of_lt hi) (fun j hj hw => (hT1 t ht j (by omega) (by omega) hw).1 hj) (fun j h1 h2 hw => by
            by_cases e : j = i
            · rw [e]; exact hu
            · exact (hT1 t ht j h2 e hw).2 (by omega))
        have agK : ∀ k, (k ∈ x.2 ∨ blkOf (nx0 + 32 * i) k = true) → (curS ops nx0 st tr S).hp k = (st i).hp k := fun k hk =>
          curN_agree (fun i hi hw => hvK k i hi hw) (Nat.le_of_lt hi) (fun j hj hw => (hK1 k hk j (by omega) (by omega) hw).1 hj) (fun j h1 h2 hw => by
            by_cases e : j = i
            · rw [e]; exact hu
            · exact (hK1 k hk j h2 e hw).2 (by omega))
        have nextT : ∀ t, (curS ops nx0 st tr (addS S i)).fr t = if o.dst = some t then (st (i + 1)).fr t else (curS ops nx0 st tr S).fr t := by
          intro t
          have e : wrT ops i t = decide (o.dst = some t) := by
            unfold wrT
            rw [ho]
            cases hdd : o.dst with
            | none => simp [hdd]
            | some d => simp only [hdd, Option.some.injEq]; rw [Bool.eq_iff_iff]; simp
          split
          · rename_i hd
            exact curN_add (val := fun i t => (st i).fr t) (by rw [e]; simpa using hd) hi (fun j h1 h2 hw => (hT1 t (.inr hd) j h2 (by omega) hw).2 h1)
          · rename_i hd
            exact curN_add_ne (val := fun i t => (st i).fr t) (by rw [e]; simpa using hd)
        have nextK : ∀ k, (curS ops nx0 st tr (addS S i)).hp k = if wrK nx0 tr i k = true then (st (i + 1)).hp k else (curS ops nx0 st tr S).hp k := by
          intro k
          split
          · rename_i hw
            refine curN_add (val := fun i t => (st i).hp t) hw hi (fun j h1 h2 hwj => (hK1 k ?_ j h2 (by omega) hwj).2 h1)
            unfold wrK at hw
            rw [show tr.getD i (false, []) = x by simp [List.getD, hx]] at hw
            simp only [Bool.or_eq_true, Bool.and_eq_true] at hw
            exact hw.imp (fun h => isIn_iff.1 h.2) id
          · rename_i hw
            exact curN_add_ne (val := fun i t => (st i).hp t) (by simpa using hw)
        -- behind it
        have next : ∀ (a' : Act) (w' : World), (∃ ρ' I', Rel O nt ρ' I' (curS ops nx0 st tr (addS S i)) a' w' ∧ Fresh ρ' s0.nx ∧ (∀ j k, j < ops.size → addS S i j = false → nx0 + 32 * j ≤ k → k < nx0 + 32 * j + 32 → ρ' k = none) ∧ Tr O s0.lo ρ0 I0 w0 ρ' I' w') → wpAny P .any ops Q fuel (listed.setIfInBounds i true) a' w' := by
          intro a' w' hinv'
          refine ih _ (addS S i) a' w' (by simp [hsz]) (fun j hj => ?_) (fun j hj => by rw [addS_ne _ (by omega)]; exact hS2 j hj) (by have := nUn_add hu hi; omega) (fun j q hj hb => ?_) hinv'
          · by_cases e : j = i
            · subst e
              rw [addS_self]
              have : j < listed.size := by omega
              simp [this]
            · rw [addS_ne _ e, getD_set_ne true (Ne.symm e), getD_set_ne false (Ne.symm e)]
              exact hS j hj
          · by_cases e : j = i
            · subst e
              have := hpre q hb
              by_cases e2 : q = j
              · rw [e2, addS_self]
              · rw [addS_ne _ e2]; exact this
            · rw [addS_ne _ e] at hj
              have := hcl j q hj hb
              by_cases e2 : q = i
              · rw [e2, addS_self]
              · rw [addS_ne _ e2]; exact this
        obtain ⟨ρ, I, hR, hF, hfree, hTr⟩ := hinv
        have hmem : o ∈ ops.toList := by
          have := Array.mem_of_getElem? ho
          simpa using this
        have hd := hdst o hmem
        have yes : ∀ (g t : Nat) (want b : Bool) (og : Oper), o.guard = some (g, want) → ops[g]? = some og → og.dst = some t → (st i).fr t = .d (.v (.bool b)) → Region.wanted o (yielded ops a.tmps) = (b == want) := by
          intro g t want b og h1 h2 h3 h4
          have hlook : t ∈ o.looksAt ops := by
            unfold Oper.looksAt
            rw [h1]
            simp [h2, h3]
          have hv := hR.fr t
          rw [agT t (.inl hlook), h4] at hv
          have hv := VR.atom hv
          have ht : t < a.tmps.size := by
            rcases Nat.lt_or_ge t a.tmps.size with h | h
            · exact h
            · simp [Array.getD, Nat.not_lt.2 h, undef] at hv
          have hv2 : a.tmps[t]? = some (.bool b) := by
            simp only [Array.getD, ht, dif_pos] at hv
            simp only [Array.getElem?_eq_getElem ht]
            exact congrArg some hv
          have hy : yielded ops a.tmps g = some b := by simp [yielded, h2, h3, hv2]
          simp only [Region.wanted, h1, hy]
          cases b <;> cases want <;> rfl
        have no : ∀ (g t : Nat) (want : Bool) (x : Array Value) (og : Oper), o.guard = some (g, want) → ops[g]? = some og → og.dst = some t → (st i).fr t = .d (.v (.tuple x)) → Region.wanted o (yielded ops a.tmps) = false := by
          intro g t want x og h1 h2 h3 h4
          have hlook : t ∈ o.looksAt ops := by
            unfold Oper.looksAt
            rw [h1]
            simp [h2, h3]
          have hv := hR.fr t
          rw [agT t (.inl hlook), h4] at hv
          have hv := VR.atom hv
          have hy : yielded ops a.tmps g = none := by
            simp only [yielded, h2, h3, Option.bind_some]
            cases ht : a.tmps[t]? with
            | none => rfl
            | some v =>
              have : v = .tuple x := by
                rw [Array.getD_eq_getD_getElem?, ht] at hv
                exact hv
              subst this
              rfl
          simp [Region.wanted, h1, hy]
        unfold wpOp
        simp only [ho]
        have hcur : (curS ops nx0 st tr S).nx = s0.nx := by simp [curS, st0]
        have hTrLe : ∀ k, k < s0.lo → ¬ (nx0 + 32 * i ≤ k ∧ k < nx0 + 32 * i + 32) ∧ k < s0.nx := fun k hk => ⟨by omega, by omega⟩
        generalize hs2 : st (i + 1) = s2 at *
        cases hjs with
        | run wr X s1 hg hop =>
          have hw : Region.wanted o (yielded ops a.tmps) = true := by
            rcases hg with hg | ⟨g, t, want, og, h1, h2, h3, h4⟩
            · simp [Region.wanted, hg]
            · rw [yes g t want want og h1 h2 h3 h4]; simp
          rw [if_pos hw]
          refine .inl ?_
          have hre : restr (st i) (o.looksAt ops) X = restr (curS ops nx0 st tr S) (o.looksAt ops) X := by
            refine LS.ext' (fun t => ?_) (fun k => ?_) (by simp [restr, hcur, (hnxs i (by omega)).1]) (by simp [restr, curS, st0, (hnxs i (by omega)).2])
            · simp only [restr]
              cases hin : isIn (o.looksAt ops) t with
              | true => simp only [cond_true]; exact (agT t (.inl (isIn_iff.1 hin))).symm
              | false => rfl
            · simp only [restr]
              cases hin : isIn X k with
              | true => simp only [cond_true]; exact (agK k (.inl (isIn_iff.1 hin))).symm
              | false => rfl
          rw [hre] at hop
          refine Oper.wp_mono (fun a' w' hA => next a' w' ?_) (opD_sound hT hop hR hd (fun k h1 h2 => hfree i k hi hu h1 h2) (by rw [hcur]; exact hF) (by rw [hcur]; omega) (fun g hg => hO0 g (Nat.le_trans hTr.step.size hg)) Q)
          obtain ⟨ρ', I', r1, r2, r3, r4, r5, r6, r7⟩ := hA
          rw [hcur] at r2 r3
          have hme : merge o.dst (nx0 + 32 * i) wr X (curS ops nx0 st tr S) s1 = curS ops nx0 st tr (addS S i) := by
            refine LS.ext' (fun t => ?_) (fun k => ?_) rfl rfl
            · rw [nextT t]
              simp only [merge]
              cases hdd : o.dst with
              | none => simp
              | some d =>
                simp only [Option.some.injEq, upd_eq]
                by_cases e : t = d
                · subst e; simp
                · simp [e, Ne.symm e]
            · rw [nextK k]
              have e : wrK nx0 tr i k = ((wr && isIn X k) || blkOf (nx0 + 32 * i) k) := by
                unfold wrK
                rw [show tr.getD i (false, []) = (wr, X) by simp [List.getD, hx]]
              rw [e]
              simp only [merge]
              cases hb : ((wr && isIn X k) || blkOf (nx0 + 32 * i) k) <;> simp
          rw [hme] at r1
          refine ⟨ρ', I', r1, r3, fun j k hj hSj h1 h2 => ?_, hTr.trans ⟨fun k hk => r2 k (hTrLe k hk).1 (hTrLe k hk).2, r4, r5, r6, r7⟩⟩
          have hne : j ≠ i := by rintro rfl; rw [addS_self] at hSj; simp at hSj
          rw [addS_ne _ hne] at hSj
          rw [r2 k (by omega) (by omega)]
          exact hfree j k hj hSj h1 h2
        | skip hg =>
          obtain ⟨g, t, want, og, h1, h2, h3, h4⟩ := hg
          have hw : Region.wanted o (yielded ops a.tmps) = false := by
            rcases h4 with h4 | ⟨x, h4⟩
            · rw [yes g t want (!want) og h1 h2 h3 h4]; cases want <;> rfl
            · exact no g t want x og h1 h2 h3 h4
          rw [if_neg (by rw [hw]; simp)]
          refine next _ w ⟨ρ, I, ?_, hF, fun j k hj hSj h1 h2 => ?_, hTr⟩
          · have := hR.put (dst := o.dst) (v := undef) hd (.d (.v _))
            have hme : (curS ops nx0 st tr S).put o.dst (.d (.v undef)) = curS ops nx0 st tr (addS S i) := by
              refine LS.ext' (fun t => ?_) (fun k => ?_) (by rw [LS.put_nx]; rfl) (by rw [LS.put_lo]; rfl)
              · rw [nextT t]
                cases hdd : o.dst with
                | none => simp [LS.put]
                | some d =>
                  simp only [Option.some.injEq, LS.put, upd_eq]
                  by_cases e : t = d
                  · subst e; simp [undef]
                  · simp [e, Ne.symm e]
              · rw [LS.put_hp, nextK k, LS.put_hp]
                split
                · rename_i hwk
                  refine agK k ?_
                  unfold wrK at hwk
                  rw [show tr.getD i (false, []) = (false, []) by simp [List.getD, hx]] at hwk
                  simp at hwk
                  exact .inr hwk
                · rfl
            rw [← hme]
            exact this
          · have hne : j ≠ i := by rintro rfl; rw [addS_self] at hSj; simp at hSj
            rw [addS_ne _ hne] at hSj
            exact hfree j k hj hSj h1 h2
  refine go ops.size _ (fun _ => false) a0 w0 (by simp) (fun i hi => by simp [hi]) (fun _ _ => rfl) ?_ (fun i j h => by simp at h) ⟨ρ0, I0, ?_, fun k hk => hF0 k (by omega), fun j k _ _ h1 _ => hF0 k (by omega), Tr.refl _ _ _ _ _⟩
  · have : ∀ m, nUn (fun _ => false) m ≤ m := by
      intro m
      induction m with
      | zero => exact Nat.le_refl _
      | succ m ih => simp only [nUn, cond_false]; omega
    exact this _
  · have e : curS ops nx0 st tr (fun _ => false) = s0 := by
      have none : ∀ {V : Type} (val : Nat → Nat → V) (wr : Nat → Nat → Bool) (m l : Nat), curN val wr (fun _ => false) m l = val 0 l := by
        intro V val wr m l
        induction m with
        | zero => rfl
        | succ m ih => simp [curN, ih]
      refine LS.ext' (fun t => ?_) (fun k => ?_) (by simp [curS, st0]) (by simp [curS, st0])
      · simp only [curS, none, st0]
      · simp only [curS, none, st0]
    rw [e]
    exact hR0
end
end Go.Proofs.YtojaakpnpdnbhaaGreatDoor.L
