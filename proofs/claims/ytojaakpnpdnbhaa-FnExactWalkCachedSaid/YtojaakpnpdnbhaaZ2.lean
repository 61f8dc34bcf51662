/- The law FnExactWalkCached answers true at every input that its statement lets in. -/
import Derived.Test.YtojaakpnpdnbhaaRows
import Derived.Test.YtojaakpnpdnbhaaZ1
/- What the functions compute that tell a guest's own view: contracts. -/
set_option linter.unusedVariables false
set_option linter.unusedSimpArgs false
set_option maxRecDepth 100000
namespace Go.Proofs.Ytojaakpnpdnbhaa.L
open Go.RowKit
theorem firstNZ_zero {l : List Int} (h : firstNZ l = 0) : ∀ x ∈ l, x = 0 := by
  induction l with
  | nil => intro x hx; simp at hx
  | cons a l ih =>
    simp only [firstNZ] at h
    split at h
    · rename_i h0
      intro x hx
      rcases List.mem_cons.1 hx with rfl | hx
      · exact h0
      · exact ih h x hx
    · rename_i h0
      exact absurd h h0
theorem pagesFault_ok {l : List PageM} {top : Int} (h : pagesFault l top = 0) : PgsOK l top := by
  unfold pagesFault at h
  obtain ⟨h1, h⟩ := bif_zero h (by decide)
  obtain ⟨h2, h⟩ := bif_zero h (by decide)
  refine ⟨by simp at h2; omega, fun p hp => ?_⟩
  have h3 := firstNZ_zero h _ (List.mem_map_of_mem hp)
  unfold pageBad at h3
  obtain ⟨h4, h3⟩ := bif_zero h3 (by decide)
  simp only [Bool.or_eq_false_iff, Bool.not_eq_eq_eq_not, Bool.not_false, inR_iff] at h4
  omega
structure MemOK (m : List Int) : Prop where
  pos : 0 < m.length
  le : m.length ≤ 192
  mod : m.length % 8 = 0
  word : ∀ x ∈ m, isW x = true
theorem memFault_ok {m : List Int} (h : memFault m = 0) : MemOK m := by
  unfold memFault at h
  obtain ⟨h1, h⟩ := bif_zero h (by decide)
  obtain ⟨h2, h⟩ := bif_zero h (by decide)
  simp only [Bool.or_eq_false_iff, bne_eq_false_iff_eq, beq_eq_false_iff_ne, decide_eq_false_iff_not] at h1
  have h3 : Int.tmod (m.length : Int) 8 = (m.length : Int) % 8 := Int.tmod_eq_emod_of_nonneg (by omega)
  rw [h3] at h1
  exact ⟨by omega, by omega, by omega, fun x hx => List.all_eq_true.1 (by simpa using h2) x hx⟩
abbrev pageTop (mem : List Int) : Int := IntKind.i64.wrap (Int.tdiv mem.length 8)
theorem pageTop_eq {mem : List Int} (h : MemOK mem) : pageTop mem * 8 = mem.length := by
  have h1 : Int.tdiv (mem.length : Int) 8 = (mem.length : Int) / 8 := Int.tdiv_eq_ediv_of_nonneg (by omega)
  have := h.mod
  have := h.le
  unfold pageTop
  rw [h1, wrap_i64 _ (by omega) (by omega)]
  omega
def stepF (m : HartM) (l : List PageM) (mem : List Int) : Int :=
  if hFault m = 0 then (if pagesFault l 24 = 0 then (bif (memFault mem != 0) || l.any (fun p => decide (p.to ≥ pageTop mem)) then 1 else 0) else pagesFault l 24) else hFault m
theorem firstNZ_two (a b : Int) : firstNZ [a, b] = if a = 0 then b else a := by
  simp only [firstNZ]
  split
  · split
    · rename_i h; exact h.symm
    · rfl
  · rfl
theorem stepF_any {l : List PageM} {mem : List Int} (hp : pagesFault l 24 = 0) (hm : memFault mem = 0) (i : Nat) (hi : i < l.length) :
    decide (IntKind.i64.wrap (IntKind.i64.wrap ((l.getD i ⟨0, 0⟩).to + 1) * 8) > (mem.length : Int)) = decide ((l.getD i ⟨0, 0⟩).to ≥ pageTop mem) := by
  have h1 := (pagesFault_ok hp).get (i := i) (by rw [← (pagesFault_ok hp).len]; exact hi)
  have h2 := pageTop_eq (memFault_ok hm)
  generalize (l.getD i ⟨0, 0⟩).to = t at *
  rw [wrap_i64 (t + 1) (by omega) (by omega), wrap_i64 _ (by omega) (by omega)]
  exact decide_eq_decide.2 (by omega)
def idPages : List PageM := (List.range 8).map fun (i : Nat) => (⟨(i : Int), 7⟩ : PageM)
def spaceM (m : HartM) (l : List PageM) (mem : List Int) : Int × List PageM :=
  if m.csr.getD 10 0 = 0 then (0, idPages) else
  bif (decide ((l.getD (m.csr.getD 10 0 - 1).toNat ⟨0, 0⟩).to < 0) || (andI (l.getD (m.csr.getD 10 0 - 1).toNat ⟨0, 0⟩).kinds 1 == 0)) || (m.csr.getD 10 0 == 8) then (7, []) else (0, (pageW mem (l.getD (m.csr.getD 10 0 - 1).toNat ⟨0, 0⟩).to).map entryP)
/-- a machine over a memory with which nothing is wrong -/
structure StepOK (m : HartM) (l : List PageM) (mem : List Int) : Prop where
  hart : m.right
  pgs : PgsOK l 24
  ram : MemOK mem
  top : ∀ p ∈ l, (p.to + 1) * 8 ≤ mem.length
theorem stepF_ok {m : HartM} {l : List PageM} {mem : List Int} (h : stepF m l mem = 0) : StepOK m l mem := by
  unfold stepF at h
  split at h
  · rename_i h0
    split at h
    · rename_i h1
      obtain ⟨h2, _⟩ := bif_zero h (by decide)
      simp only [Bool.or_eq_false_iff, bne_eq_false_iff_eq] at h2
      refine ⟨hFault_right h0, pagesFault_ok h1, memFault_ok h2.1, fun p hp => ?_⟩
      have h3 := List.any_eq_false.1 h2.2 p hp
      have h4 := pageTop_eq (memFault_ok h2.1)
      simp only [decide_eq_true_eq] at h3
      omega
    · rename_i h1; exact absurd h h1
  · rename_i h0; exact absurd h h0
theorem StepOK.table {m : HartM} {l : List PageM} {mem : List Int} (h : StepOK m l mem) : 0 ≤ m.csr.getD 10 0 ∧ m.csr.getD 10 0 ≤ 8 := by
  refine ⟨?_, h.hart.c10⟩
  rw [getD_at _ (by rw [h.hart.csr]; omega)]
  exact (isW_iff.1 (h.hart.wc _ (List.getElem_mem _))).1
theorem StepOK.page {m : HartM} {l : List PageM} {mem : List Int} (h : StepOK m l mem) {i : Nat} (hi : i < 8) : -1 ≤ (l.getD i ⟨0, 0⟩).to ∧ (l.getD i ⟨0, 0⟩).to < 24 ∧ ((l.getD i ⟨0, 0⟩).to + 1) * 8 ≤ mem.length := by
  have h1 := h.pgs.get hi
  refine ⟨h1.1, h1.2, ?_⟩
  rw [getD_at _ (by rw [h.pgs.len]; exact hi)]
  exact h.top _ (List.getElem_mem _)
theorem pagesFrom_page {mem : List Int} (hm : MemOK mem) {p : Int} (h0 : 0 ≤ p) (h : (p + 1) * 8 ≤ mem.length) : pagesFrom (pageW mem p) = (0, (pageW mem p).map entryP) := by
  have h8 := pageW_len mem p h0 h
  have hw : (pageW mem p).all isW = true := List.all_eq_true.2 (fun x hx => hm.word x (List.mem_of_mem_drop (List.mem_of_mem_take hx)))
  unfold pagesFrom
  rw [h8, hw]
  rfl
theorem id_get (i : Nat) (hi : i < 8) : idPages.take i ++ [⟨(i : Int), 7⟩] = idPages.take (i + 1) := by
  have : i = 0 ∨ i = 1 ∨ i = 2 ∨ i = 3 ∨ i = 4 ∨ i = 5 ∨ i = 6 ∨ i = 7 := by omega
  rcases this with rfl | rfl | rfl | rfl | rfl | rfl | rfl | rfl <;> rfl
abbrev busD (m : HartM) (l : List PageM) (mem : List Int) : List D := [pages l, ints mem, dI 0, ints m.regs, dI m.pc, ints m.csr, dB m.halted, dB m.waiting, dB m.rung, dI m.done, ints m.inp, ints m.out, dI 0]
theorem space_walk {m : HartM} {l : List PageM} {mem : List Int} (ok : StepOK m l mem) (h0 : 0 < m.csr.getD 10 0) :
    IntKind.i64.wrap (IntKind.i64.wrap (m.csr.getD 10 0 - 1) * 8) = (m.csr.getD 10 0 - 1) * 8 ∧ walkP l ((m.csr.getD 10 0 - 1) * 8) 1 = bif decide ((l.getD (m.csr.getD 10 0 - 1).toNat ⟨0, 0⟩).to < 0) || (andI (l.getD (m.csr.getD 10 0 - 1).toNat ⟨0, 0⟩).kinds 1 == 0) then -1 else (l.getD (m.csr.getD 10 0 - 1).toNat ⟨0, 0⟩).to * 8 := by
  have ht := ok.table
  have hin : inR ((m.csr.getD 10 0 - 1) * 8) 0 63 = true := inR_iff.2 ⟨by omega, by omega⟩
  have hd := div8 (a := (m.csr.getD 10 0 - 1) * 8) (by omega) (by omega)
  have e1 : Int.tdiv ((m.csr.getD 10 0 - 1) * 8) 8 = m.csr.getD 10 0 - 1 := by rw [Int.tdiv_eq_ediv_of_nonneg (by omega)]; omega
  have e2 : Int.tmod ((m.csr.getD 10 0 - 1) * 8) 8 = 0 := by rw [Int.tmod_eq_emod_of_nonneg (by omega)]; omega
  have ea : pageAt l ((m.csr.getD 10 0 - 1) * 8) = l.getD (m.csr.getD 10 0 - 1).toNat ⟨0, 0⟩ := by unfold pageAt; rw [hd.1, e1]
  have hw := fun h => (walk_get (at_ := (m.csr.getD 10 0 - 1) * 8) ok.pgs (by omega) hin h).1
  rw [ea, e2] at hw
  have ew : IntKind.i64.wrap (m.csr.getD 10 0 - 1) = m.csr.getD 10 0 - 1 := wrap_i64 _ (by omega) (by omega)
  refine ⟨by rw [ew, wrap_i64 _ (by omega) (by omega)], ?_⟩
  unfold walkP
  rw [hin, ea, e2]
  cases hb : decide ((l.getD (m.csr.getD 10 0 - 1).toNat ⟨0, 0⟩).to < 0) || (andI (l.getD (m.csr.getD 10 0 - 1).toNat ⟨0, 0⟩).kinds 1 == 0) with
  | true => rfl
  | false =>
    simp only [Bool.not_true, cond_false]
    rw [hw (of_decide_eq_false (Bool.or_eq_false_iff.1 hb).1)]
    omega
def spaceOf (m : HartM) (l : List PageM) (mem : List Int) : Int × List PageM := if stepF m l mem = 0 then spaceM m l mem else (stepF m l mem, [])
theorem spaceM_1 (m : HartM) (l : List PageM) (mem : List Int) : spaceM m l mem = (0, (spaceM m l mem).2) ∨ spaceM m l mem = (7, []) := by
  unfold spaceM
  split
  · exact .inl rfl
  · generalize (decide ((l.getD (m.csr.getD 10 0 - 1).toNat ⟨0, 0⟩).to < 0) || (andI (l.getD (m.csr.getD 10 0 - 1).toNat ⟨0, 0⟩).kinds 1 == 0) || (m.csr.getD 10 0 == 8)) = b
    cases b
    · exact .inl rfl
    · exact .inr rfl
theorem spaceM_len {m : HartM} {l : List PageM} {mem : List Int} (ok : StepOK m l mem) : (spaceM m l mem).2.length ≤ 8 := by
  unfold spaceM
  split
  · show idPages.length ≤ 8
    decide
  · generalize (decide ((l.getD (m.csr.getD 10 0 - 1).toNat ⟨0, 0⟩).to < 0) || (andI (l.getD (m.csr.getD 10 0 - 1).toNat ⟨0, 0⟩).kinds 1 == 0) || (m.csr.getD 10 0 == 8)) = b
    cases b
    · show ((pageW mem _).map entryP).length ≤ 8
      rw [List.length_map]
      unfold pageW
      rw [List.length_take]
      omega
    · simp
theorem spaceOf_few (m : HartM) (l : List PageM) (mem : List Int) : (spaceOf m l mem).2.length ≤ 8 := by
  unfold spaceOf
  split
  · rename_i h; exact spaceM_len (stepF_ok h)
  · simp
end Go.Proofs.Ytojaakpnpdnbhaa.L

/- A walk by a cache: contracts. -/
set_option linter.unusedVariables false
set_option linter.unusedSimpArgs false
set_option maxRecDepth 100000
namespace Go.Proofs.Ytojaakpnpdnbhaa.L
open Go.RowKit
structure CacM where
  code : Int
  val : Int
  hit : Bool
  cac : List HitM
  deriving DecidableEq
abbrev cacR (p : CacM) : RV1 := .agg [.v (.int .i64 p.code), .v (.int .i64 p.val), .v (.bool p.hit), oHits p.cac]
abbrev cacLV (p : CacM) : LV := .agg [di p.code, di p.val, dv (.bool p.hit), .d (hits p.cac)]
def askedW (c : List HitM) (tag : Int) (l : List PageM) (kind : Int) : Int := if cacheF c = 0 then (bif !inR tag 0 9 then 3 else if pagesFault l 24 = 0 then (bif !kindOk kind then 3 else 0) else pagesFault l 24) else cacheF c
abbrev pgOf (a : Int) : Int := IntKind.i64.wrap (Int.tdiv a 8)
abbrev placeW (to a : Int) : Int := IntKind.i64.wrap (IntKind.i64.wrap (to * 8) + Int.tmod a 8)
def walkL (c : List HitM) (tag : Int) (l : List PageM) (a kind : Int) : CacM := if walkP l a kind < 0 then ⟨kindC kind, 0, false, []⟩ else ⟨0, walkP l a kind, false, fillC c ⟨tag, pgOf a, (pageAt l a).to, (pageAt l a).kinds⟩⟩
def walkB (c : List HitM) (tag : Int) (l : List PageM) (a kind : Int) : CacM :=
  bif inR a 0 63 then (if findH c tag (pgOf a) ≥ 0 then (bif andI (c.getD (findH c tag (pgOf a)).toNat hit0).kinds kind == 0 then ⟨kindC kind, 0, false, []⟩ else ⟨0, placeW (c.getD (findH c tag (pgOf a)).toNat hit0).to a, true, c⟩) else walkL c tag l a kind) else walkL c tag l a kind
def walkC (c : List HitM) (tag : Int) (l : List PageM) (a kind : Int) : CacM := if askedW c tag l kind = 0 then walkB c tag l a kind else ⟨askedW c tag l kind, 0, false, []⟩
theorem c_spec_l5Asked (c : List HitM) (hc : c.length ≤ 1048576) (tag : Int) (l : List PageM) (hl : l.length ≤ 1048576) (kind : Int) : FnOK Try.prog 134 [.d (hits c), di tag, .d (Go.Proofs.Ytojaakpnpdnbhaa.L.pages l), di kind] (ri (askedW c tag l kind)) := by
  have c1 := c_spec_CacheFault c (by omega)
  have c2 := c_spec_l1In tag 0 9
  have c3 := c_spec_PagesFault l 24 hl
  have c4 := c_spec_l4Kind kind
  generalize hv : askedW c tag l kind = v
  unfold askedW at hv
  generalize cacheF c = e at *
  generalize pagesFault l 24 = e2 at *
  generalize inR tag 0 9 = b1 at *
  generalize kindOk kind = b2 at *
  refine fn_of lv134 Try.func134 rfl rfl (by kernel_rfl) rfl ?_
  refine .inl ⟨_, _, rfl, c1, rfl, ?_⟩
  refine bsplit_intro (fun h => ?_) (fun h => ?_)
  · rw [if_neg (by simpa using h)] at hv
    exact ⟨⟨congrArg (Value.int .i64) hv, trivial⟩, rfl⟩
  rw [if_pos (by simpa using h)] at hv
  refine .inl ⟨_, _, rfl, c2, rfl, ?_⟩
  refine bsplit_intro (fun h1 => ?_) (fun h1 => ?_)
  · rw [show (!b1) = true from h1] at hv
    exact ⟨⟨congrArg (Value.int .i64) hv, trivial⟩, rfl⟩
  rw [show (!b1) = false from h1, cond_false] at hv
  refine .inl ⟨_, _, rfl, c3, rfl, ?_⟩
  refine bsplit_intro (fun h2 => ?_) (fun h2 => ?_)
  · rw [if_neg (by simpa using h2)] at hv
    exact ⟨⟨congrArg (Value.int .i64) hv, trivial⟩, rfl⟩
  rw [if_pos (by simpa using h2)] at hv
  refine .inl ⟨_, _, rfl, c4, rfl, ?_⟩
  refine bsplit_intro (fun h3 => ?_) (fun h3 => ?_)
  · rw [show (!b2) = true from h3] at hv
    exact ⟨⟨congrArg (Value.int .i64) hv, trivial⟩, rfl⟩
  · rw [show (!b2) = false from h3] at hv
    exact ⟨⟨congrArg (Value.int .i64) hv, trivial⟩, rfl⟩
theorem askedW_ok {c : List HitM} {tag : Int} {l : List PageM} {kind : Int} (h : askedW c tag l kind = 0) : cacheF c = 0 ∧ pagesFault l 24 = 0 ∧ kindOk kind = true ∧ inR tag 0 9 = true := by
  unfold askedW at h
  split at h
  · rename_i h1
    cases ht : inR tag 0 9 with
    | false => rw [ht] at h; simp at h
    | true =>
      rw [ht] at h
      simp only [Bool.not_true, cond_false] at h
      split at h
      · rename_i h2
        cases hk : kindOk kind with
        | false => rw [hk] at h; simp at h
        | true => exact ⟨h1, h2, rfl, rfl⟩
      · rename_i h2; exact absurd h h2
  · rename_i h1; exact absurd h h1
theorem cacheF_len {c : List HitM} (h : cacheF c = 0) : c.length ≤ 12 := by
  unfold cacheF at h
  split at h
  · simp at h
  · omega
theorem kindOk_or {k : Int} (h : kindOk k = true) : k = 1 ∨ k = 2 ∨ k = 4 := by
  unfold kindOk at h
  simpa using h
theorem walkP_at {l : List PageM} {a kind : Int} (h : ¬ walkP l a kind < 0) : inR a 0 63 = true := by
  unfold walkP at h
  cases hb : inR a 0 63 with
  | true => rfl
  | false => rw [hb] at h; exact absurd (show (-1 : Int) < 0 by decide) h
theorem c_spec_l5Walk (c : List HitM) (hc : c.length ≤ 12) (tag : Int) (l : List PageM) (hl : l.length = 8) (a kind : Int) (hk : kindOk kind = true) : FnOK Try.prog 135 [.d (hits c), di tag, .d (Go.Proofs.Ytojaakpnpdnbhaa.L.pages l), di a, di kind] (.r (cacR (walkB c tag l a kind))) := by
  have c1 := c_spec_l1In a 0 63
  have c2 := c_spec_l5Find c tag (pgOf a) (by omega)
  have c3 := c_spec_l4Code kind (kindOk_or hk)
  have c4 := c_spec_l4Walk l hl a kind
  have c5 := c_spec_l5Fill c ⟨tag, pgOf a, (pageAt l a).to, (pageAt l a).kinds⟩ (by omega)
  have hf := find_lt (c := c) (tag := tag) (page := pgOf a)
  have hwp : ¬ walkP l a kind < 0 → 0 ≤ pgOf a ∧ pgOf a < (8 : Int) := fun h => by
    have h2 := inR_iff.1 (walkP_at h)
    obtain ⟨e1, e2, e3⟩ := div8 h2.1 h2.2
    show 0 ≤ IntKind.i64.wrap (Int.tdiv a 8) ∧ IntKind.i64.wrap (Int.tdiv a 8) < 8
    omega
  obtain ⟨v, hv⟩ : ∃ v, v = walkB c tag l a kind := ⟨_, rfl⟩
  rw [← hv]
  unfold walkB walkL at hv
  generalize walkP l a kind = w at *
  obtain ⟨k, hkk⟩ : ∃ k, k = findH c tag (pgOf a) := ⟨_, rfl⟩
  rw [← hkk] at hv hf c2
  obtain ⟨b, hb⟩ : ∃ b, b = inR a 0 63 := ⟨_, rfl⟩
  rw [← hb] at hv c1
  cases b with
  | true =>
    rw [cond_true] at hv
    by_cases h0 : k ≥ 0
    · rw [if_pos h0] at hv
      obtain ⟨e1, e2⟩ := hf h0
      have hlt : k < (c.length : Int) := by omega
      obtain ⟨z, hz⟩ : ∃ z, z = (andI (c.getD k.toNat hit0).kinds kind == 0) := ⟨_, rfl⟩
      rw [← hz] at hv
      refine fn_of lv135 Try.func135 rfl rfl (by kernel_rfl) rfl ?_
      refine .inl ⟨_, _, rfl, c1, rfl, ?_⟩
      refine bsplit_true ?_
      refine ask_intro (by decide) ?_
      refine .inl ⟨_, _, rfl, c2, rfl, ?_⟩
      refine bsplit_of_true (decide_eq_true h0) ?_
      refine ask_intro ⟨h0, hlt, rfl⟩ ?_
      cases z with
      | true =>
        have hv : v = ⟨kindC kind, 0, false, []⟩ := hv
        subst hv
        refine bsplit_of_true hz.symm ?_
        refine .inl ⟨_, _, rfl, c3, rfl, ?_⟩
        exact ⟨⟨rfl, rfl, rfl, ⟨rfl, rfl⟩, trivial⟩, rfl⟩
      | false =>
        have hv : v = ⟨0, placeW (c.getD k.toNat hit0).to a, true, c⟩ := hv
        subst hv
        refine bsplit_of_false hz.symm ?_
        refine ask_intro (by decide) ?_
        refine ask_intro ⟨by show (0 + c.length) * 32 ≤ 140737488355328; omega, by show 0 + c.length ≤ 9223372036854775807; omega, fun i hi => rfl⟩ ?_
        refine chk_intro (by kernel_rfl) ?_
        exact ⟨⟨rfl, rfl, rfl, ⟨rfl, rfl, Nat.zero_add _, fun j hj => ⟨rfl, rfl⟩⟩, trivial⟩, rfl⟩
    · rw [if_neg h0] at hv
      refine fn_of lv135 Try.func135 rfl rfl (by kernel_rfl) rfl ?_
      refine .inl ⟨_, _, rfl, c1, rfl, ?_⟩
      refine bsplit_true ?_
      refine ask_intro (by decide) ?_
      refine .inl ⟨_, _, rfl, c2, rfl, ?_⟩
      refine bsplit_of_false (decide_eq_false h0) ?_
      refine .inl ⟨_, _, rfl, c4, rfl, ?_⟩
      refine bsplit_intro (fun h => ?_) (fun h => ?_)
      · rw [if_pos (of_decide_eq_true h)] at hv
        subst hv
        refine .inl ⟨_, _, rfl, c3, rfl, ?_⟩
        exact ⟨⟨rfl, rfl, rfl, ⟨rfl, rfl⟩, trivial⟩, rfl⟩
      · have h := of_decide_eq_false h
        rw [if_neg h] at hv
        subst hv
        obtain ⟨q1, q2⟩ := hwp h
        refine ask_intro (by decide) ?_
        refine ask_intro ⟨q1, by show pgOf a < (l.length : Int); omega, rfl⟩ ?_
        refine ask_intro ⟨q1, by show pgOf a < (l.length : Int); omega, rfl⟩ ?_
        refine .inl ⟨_, _, rfl, c5, rfl, ?_⟩
        refine chk_intro (by kernel_rfl) ?_
        exact ⟨⟨rfl, rfl, rfl, ⟨rfl, rfl, rfl, fun j hj => ⟨rfl, rfl⟩⟩, trivial⟩, rfl⟩
  | false =>
    rw [cond_false] at hv
    refine fn_of lv135 Try.func135 rfl rfl (by kernel_rfl) rfl ?_
    refine .inl ⟨_, _, rfl, c1, rfl, ?_⟩
    refine bsplit_false ?_
    refine .inl ⟨_, _, rfl, c4, rfl, ?_⟩
    refine bsplit_intro (fun h => ?_) (fun h => ?_)
    · rw [if_pos (of_decide_eq_true h)] at hv
      subst hv
      refine .inl ⟨_, _, rfl, c3, rfl, ?_⟩
      exact ⟨⟨rfl, rfl, rfl, ⟨rfl, rfl⟩, trivial⟩, rfl⟩
    · have h := of_decide_eq_false h
      rw [if_neg h] at hv
      subst hv
      obtain ⟨q1, q2⟩ := hwp h
      refine ask_intro (by decide) ?_
      refine ask_intro ⟨q1, by show pgOf a < (l.length : Int); omega, rfl⟩ ?_
      refine ask_intro ⟨q1, by show pgOf a < (l.length : Int); omega, rfl⟩ ?_
      refine .inl ⟨_, _, rfl, c5, rfl, ?_⟩
      refine chk_intro (by kernel_rfl) ?_
      exact ⟨⟨rfl, rfl, rfl, ⟨rfl, rfl, rfl, fun j hj => ⟨rfl, rfl⟩⟩, trivial⟩, rfl⟩
end Go.Proofs.Ytojaakpnpdnbhaa.L

/- Walks with a cache: contracts. -/
set_option linter.unusedVariables false
set_option linter.unusedSimpArgs false
set_option maxRecDepth 100000
namespace Go.Proofs.Ytojaakpnpdnbhaa.L
open Go.RowKit
theorem c_spec_WalkCached (c : List HitM) (hc : c.length ≤ 1048576) (tag : Int) (l : List PageM) (hl : l.length ≤ 1048576) (a kind : Int) : FnOK Try.prog 59 [.d (hits c), di tag, .d (Go.Proofs.Ytojaakpnpdnbhaa.L.pages l), di a, di kind] (.r (cacR (walkC c tag l a kind))) := by
  have c1 := c_spec_l5Asked c hc tag l hl kind
  by_cases h : askedW c tag l kind = 0
  · obtain ⟨h1, h2, h3, h4⟩ := askedW_ok h
    have c2 := c_spec_l5Walk c (cacheF_len h1) tag l (pagesFault_ok h2).len a kind h3
    rw [show walkC c tag l a kind = walkB c tag l a kind from if_pos h]
    rw [h] at c1
    refine fn_of lv59 Try.func59 rfl rfl (by kernel_rfl) rfl ?_
    refine .inl ⟨_, _, rfl, c1, rfl, ?_⟩
    refine bsplit_false ?_
    refine .inl ⟨_, _, rfl, c2, rfl, ?_⟩
    exact ⟨⟨rfl, rfl, rfl, ⟨rfl, rfl, rfl, fun j hj => ⟨rfl, rfl⟩⟩, trivial⟩, rfl⟩
  · rw [show walkC c tag l a kind = ⟨askedW c tag l kind, 0, false, []⟩ from if_neg h]
    generalize askedW c tag l kind = e at *
    refine fn_of lv59 Try.func59 rfl rfl (by kernel_rfl) rfl ?_
    refine .inl ⟨_, _, rfl, c1, rfl, ?_⟩
    refine bsplit_of_true (by simpa using h) ?_
    exact ⟨⟨rfl, rfl, rfl, ⟨rfl, rfl⟩, trivial⟩, rfl⟩
set_option maxHeartbeats 1600000 in
theorem c_impl_WalkCached (c : List HitM) (hc : c.length ≤ 1048576) (tag : Int) (l : List PageM) (hl : l.length ≤ 1048576) (a kind : Int) : FnOK Try.prog 54 [.d (hits c), di tag, .d (Go.Proofs.Ytojaakpnpdnbhaa.L.pages l), di a, di kind] (.r (cacR (walkC c tag l a kind))) := by
  have c1 := c_impl_CacheFault c (by omega)
  have c2 := c_impl_within tag 0 9
  have c3 := c_impl_PagesFault l 24 hl
  have c5 := c_impl_kindCode kind
  by_cases he : cacheF c = 0
  rotate_left
  · rw [show walkC c tag l a kind = ⟨cacheF c, 0, false, []⟩ by unfold walkC askedW; rw [if_neg he, if_neg he]]
    have hz := firstNZ_two (cacheF c) (pagesFault l 24)
    rw [if_neg he] at hz
    generalize cacheF c = e at *
    generalize pagesFault l 24 = e2 at *
    have c4 := (c_impl_firstOf [e, e2] (by simp))
    rw [hz] at c4
    refine fn_of lv54 Try.func54 rfl rfl (by kernel_rfl) rfl ?_
    refine .inl ⟨_, _, rfl, c1, rfl, ?_⟩
    repeat' (first | refine bsplit_true ?_ | refine bsplit_false ?_)
    refine bsplit_of_false (by simpa using he) ?_
    repeat' (first | refine bsplit_true ?_ | refine bsplit_false ?_)
    refine .inl ⟨_, _, rfl, c3, rfl, ?_⟩
    repeat' (first | refine bsplit_true ?_ | refine bsplit_false ?_)
    refine .inl ⟨_, _, rfl, c4.weak ⟨LVLe.d (DLe.l rfl (fun i hi => litD_eq [e, e2] i hi)), trivial⟩, rfl, ?_⟩
    repeat' (first | refine bsplit_true ?_ | refine bsplit_false ?_)
    refine bsplit_of_false (by simpa using he) ?_
    repeat' (first | refine bsplit_true ?_ | refine bsplit_false ?_)
    refine bsplit_of_true (by simpa using he) ?_
    repeat' (first | refine bsplit_true ?_ | refine bsplit_false ?_)
    exact ⟨⟨rfl, rfl, rfl, ⟨rfl, rfl⟩, trivial⟩, rfl⟩
  rw [he] at c1
  cases ht : inR tag 0 9 with
  | false =>
    rw [show walkC c tag l a kind = ⟨3, 0, false, []⟩ by unfold walkC askedW; rw [if_pos he, ht]; rfl]
    rw [ht] at c2
    have hz : firstNZ [3, pagesFault l 24] = 3 := by rw [firstNZ_two]; rfl
    generalize pagesFault l 24 = e2 at *
    have c4 := (c_impl_firstOf [3, e2] (by simp))
    rw [hz] at c4
    refine fn_of lv54 Try.func54 rfl rfl (by kernel_rfl) rfl ?_
    refine .inl ⟨_, _, rfl, c1, rfl, ?_⟩
    repeat' (first | refine bsplit_true ?_ | refine bsplit_false ?_)
    refine .inl ⟨_, _, rfl, c2, rfl, ?_⟩
    repeat' (first | refine bsplit_true ?_ | refine bsplit_false ?_)
    refine .inl ⟨_, _, rfl, c3, rfl, ?_⟩
    repeat' (first | refine bsplit_true ?_ | refine bsplit_false ?_)
    refine .inl ⟨_, _, rfl, c4.weak ⟨LVLe.d (DLe.l rfl (fun i hi => litD_eq [3, e2] i hi)), trivial⟩, rfl, ?_⟩
    repeat' (first | refine bsplit_true ?_ | refine bsplit_false ?_)
    exact ⟨⟨rfl, rfl, rfl, ⟨rfl, rfl⟩, trivial⟩, rfl⟩
  | true =>
  rw [ht] at c2
  have c4 := (c_impl_firstOf [0, pagesFault l 24] (by simp))
  rw [show firstNZ [0, pagesFault l 24] = pagesFault l 24 by rw [firstNZ_two]; rfl] at c4
  by_cases hp : pagesFault l 24 = 0
  rotate_left
  · rw [show walkC c tag l a kind = ⟨pagesFault l 24, 0, false, []⟩ by unfold walkC askedW; rw [if_pos he, ht, if_neg hp]; exact if_neg hp]
    generalize pagesFault l 24 = e2 at *
    refine fn_of lv54 Try.func54 rfl rfl (by kernel_rfl) rfl ?_
    refine .inl ⟨_, _, rfl, c1, rfl, ?_⟩
    repeat' (first | refine bsplit_true ?_ | refine bsplit_false ?_)
    refine .inl ⟨_, _, rfl, c2, rfl, ?_⟩
    repeat' (first | refine bsplit_true ?_ | refine bsplit_false ?_)
    refine .inl ⟨_, _, rfl, c3, rfl, ?_⟩
    repeat' (first | refine bsplit_true ?_ | refine bsplit_false ?_)
    refine .inl ⟨_, _, rfl, c4.weak ⟨LVLe.d (DLe.l rfl (fun i hi => litD_eq [0, e2] i hi)), trivial⟩, rfl, ?_⟩
    repeat' (first | refine bsplit_true ?_ | refine bsplit_false ?_)
    refine bsplit_of_false (by simpa using hp) ?_
    repeat' (first | refine bsplit_true ?_ | refine bsplit_false ?_)
    refine bsplit_of_true (by simpa using hp) ?_
    repeat' (first | refine bsplit_true ?_ | refine bsplit_false ?_)
    exact ⟨⟨rfl, rfl, rfl, ⟨rfl, rfl⟩, trivial⟩, rfl⟩
  have hok := pagesFault_ok hp
  rw [hp] at c3 c4
  have hkc := kindC_ok kind
  cases hk : kindOk kind with
  | false =>
    rw [show walkC c tag l a kind = ⟨3, 0, false, []⟩ by unfold walkC askedW; rw [if_pos he, ht, if_pos hp, hk]; rfl]
    rw [hk] at hkc
    generalize kindC kind = z at *
    refine fn_of lv54 Try.func54 rfl rfl (by kernel_rfl) rfl ?_
    refine .inl ⟨_, _, rfl, c1, rfl, ?_⟩
    repeat' (first | refine bsplit_true ?_ | refine bsplit_false ?_)
    refine .inl ⟨_, _, rfl, c2, rfl, ?_⟩
    repeat' (first | refine bsplit_true ?_ | refine bsplit_false ?_)
    refine .inl ⟨_, _, rfl, c3, rfl, ?_⟩
    repeat' (first | refine bsplit_true ?_ | refine bsplit_false ?_)
    refine .inl ⟨_, _, rfl, c4.weak ⟨LVLe.d (DLe.l rfl (fun i hi => litD_eq [0, 0] i hi)), trivial⟩, rfl, ?_⟩
    repeat' (first | refine bsplit_true ?_ | refine bsplit_false ?_)
    refine .inl ⟨_, _, rfl, c5, rfl, ?_⟩
    repeat' (first | refine bsplit_true ?_ | refine bsplit_false ?_)
    refine bsplit_of_true hkc ?_
    repeat' (first | refine bsplit_true ?_ | refine bsplit_false ?_)
    exact ⟨⟨rfl, rfl, rfl, ⟨rfl, rfl⟩, trivial⟩, rfl⟩
  | true =>
  rw [hk] at hkc
  have hkn : (kindC kind != 0) = true := by simpa using hkc
  have hask : askedW c tag l kind = 0 := by unfold askedW; rw [if_pos he, ht, if_pos hp, hk]; rfl
  rw [show walkC c tag l a kind = walkB c tag l a kind from if_pos hask]
  have hcl := cacheF_len he
  have c6 := c_impl_hasPage a
  have c7 := c_impl_hitAt c tag (pgOf a) (by omega)
  have c8 := c_slices_Clone_Hit c (by omega)
  have c9 := c_impl_walk l 24 hok (by omega) a kind
  have c10 := c_impl_filled c ⟨tag, pgOf a, (pageAt l a).to, (pageAt l a).kinds⟩ hcl
  have hf := find_lt (c := c) (tag := tag) (page := pgOf a)
  have hlen := hok.len
  have hwp : ¬ walkP l a kind < 0 → 0 ≤ pgOf a ∧ pgOf a < (8 : Int) := fun h => by
    have h2 := inR_iff.1 (walkP_at h)
    obtain ⟨e1, e2, e3⟩ := div8 h2.1 h2.2
    show 0 ≤ IntKind.i64.wrap (Int.tdiv a 8) ∧ IntKind.i64.wrap (Int.tdiv a 8) < 8
    omega
  obtain ⟨v, hv⟩ : ∃ v, v = walkB c tag l a kind := ⟨_, rfl⟩
  rw [← hv]
  unfold walkB walkL at hv
  unfold walkI at c9
  generalize walkP l a kind = w at *
  generalize kindC kind = z at *
  obtain ⟨k, hkk⟩ : ∃ k, k = findH c tag (pgOf a) := ⟨_, rfl⟩
  rw [← hkk] at hv hf c7
  obtain ⟨b, hb⟩ : ∃ b, b = inR a 0 63 := ⟨_, rfl⟩
  rw [← hb] at hv c6
  by_cases h0 : b = true ∧ k ≥ 0
  · obtain ⟨rfl, h0⟩ := h0
    rw [cond_true, if_pos h0] at hv
    obtain ⟨e1, e2⟩ := hf h0
    have hlt : k < (c.length : Int) := by omega
    obtain ⟨y, hy⟩ : ∃ y, y = (andI (c.getD k.toNat hit0).kinds kind == 0) := ⟨_, rfl⟩
    rw [← hy] at hv
    refine fn_of lv54 Try.func54 rfl rfl (by kernel_rfl) rfl ?_
    refine .inl ⟨_, _, rfl, c1, rfl, ?_⟩
    repeat' (first | refine bsplit_true ?_ | refine bsplit_false ?_)
    refine .inl ⟨_, _, rfl, c2, rfl, ?_⟩
    repeat' (first | refine bsplit_true ?_ | refine bsplit_false ?_)
    refine .inl ⟨_, _, rfl, c3, rfl, ?_⟩
    repeat' (first | refine bsplit_true ?_ | refine bsplit_false ?_)
    refine .inl ⟨_, _, rfl, c4.weak ⟨LVLe.d (DLe.l rfl (fun i hi => litD_eq [0, 0] i hi)), trivial⟩, rfl, ?_⟩
    repeat' (first | refine bsplit_true ?_ | refine bsplit_false ?_)
    refine .inl ⟨_, _, rfl, c5, rfl, ?_⟩
    repeat' (first | refine bsplit_true ?_ | refine bsplit_false ?_)
    refine bsplit_of_false hkc ?_
    repeat' (first | refine bsplit_true ?_ | refine bsplit_false ?_)
    refine .inl ⟨_, _, rfl, c6, rfl, ?_⟩
    repeat' (first | refine bsplit_true ?_ | refine bsplit_false ?_)
    refine ask_intro (by decide) ?_
    refine .inl ⟨_, _, rfl, c7, rfl, ?_⟩
    repeat' (first | refine bsplit_true ?_ | refine bsplit_false ?_)
    refine bsplit_of_true (decide_eq_true h0) ?_
    repeat' (first | refine bsplit_true ?_ | refine bsplit_false ?_)
    refine ask_intro ⟨h0, hlt, rfl⟩ ?_
    cases y with
    | true =>
      have hv : v = ⟨z, 0, false, []⟩ := hv
      subst hv
      refine bsplit_of_true hy.symm ?_
      repeat' (first | refine bsplit_true ?_ | refine bsplit_false ?_)
      refine .inl ⟨_, _, rfl, c5, rfl, ?_⟩
      repeat' (first | refine bsplit_true ?_ | refine bsplit_false ?_)
      exact ⟨⟨rfl, rfl, rfl, ⟨rfl, rfl⟩, trivial⟩, rfl⟩
    | false =>
      have hv : v = ⟨0, placeW (c.getD k.toNat hit0).to a, true, c⟩ := hv
      subst hv
      refine bsplit_of_false hy.symm ?_
      repeat' (first | refine bsplit_true ?_ | refine bsplit_false ?_)
      refine ask_intro (by decide) ?_
      refine .inl ⟨_, _, rfl, c8, rfl, ?_⟩
      repeat' (first | refine bsplit_true ?_ | refine bsplit_false ?_)
      refine chk_intro (by kernel_rfl) ?_
      exact ⟨⟨rfl, rfl, rfl, ⟨rfl, rfl, rfl, fun j hj => ⟨rfl, rfl⟩⟩, trivial⟩, rfl⟩
  have hv : v = (if w < 0 then (⟨z, 0, false, []⟩ : CacM) else ⟨0, w, false, fillC c ⟨tag, pgOf a, (pageAt l a).to, (pageAt l a).kinds⟩⟩) := by
    rw [hv]
    cases b with
    | false => rfl
    | true => rw [cond_true, if_neg (fun h => h0 ⟨rfl, h⟩)]
  have tl : ∀ K : Prop, True := fun _ => trivial
  by_cases hw : w < 0
  · rw [if_pos hw] at hv c9
    subst hv
    cases b with
    | false =>
      refine fn_of lv54 Try.func54 rfl rfl (by kernel_rfl) rfl ?_
      refine .inl ⟨_, _, rfl, c1, rfl, ?_⟩
      repeat' (first | refine bsplit_true ?_ | refine bsplit_false ?_)
      refine .inl ⟨_, _, rfl, c2, rfl, ?_⟩
      repeat' (first | refine bsplit_true ?_ | refine bsplit_false ?_)
      refine .inl ⟨_, _, rfl, c3, rfl, ?_⟩
      repeat' (first | refine bsplit_true ?_ | refine bsplit_false ?_)
      refine .inl ⟨_, _, rfl, c4.weak ⟨LVLe.d (DLe.l rfl (fun i hi => litD_eq [0, 0] i hi)), trivial⟩, rfl, ?_⟩
      repeat' (first | refine bsplit_true ?_ | refine bsplit_false ?_)
      refine .inl ⟨_, _, rfl, c5, rfl, ?_⟩
      repeat' (first | refine bsplit_true ?_ | refine bsplit_false ?_)
      refine bsplit_of_false hkc ?_
      repeat' (first | refine bsplit_true ?_ | refine bsplit_false ?_)
      refine .inl ⟨_, _, rfl, c6, rfl, ?_⟩
      repeat' (first | refine bsplit_true ?_ | refine bsplit_false ?_)
      refine .inl ⟨_, _, rfl, c9, rfl, ?_⟩
      repeat' (first | refine bsplit_true ?_ | refine bsplit_false ?_)
      refine bsplit_of_true hkn ?_
      repeat' (first | refine bsplit_true ?_ | refine bsplit_false ?_)
      exact ⟨⟨rfl, rfl, rfl, ⟨rfl, rfl⟩, trivial⟩, rfl⟩
    | true =>
      have h1 : ¬ k ≥ 0 := fun h => h0 ⟨rfl, h⟩
      refine fn_of lv54 Try.func54 rfl rfl (by kernel_rfl) rfl ?_
      refine .inl ⟨_, _, rfl, c1, rfl, ?_⟩
      repeat' (first | refine bsplit_true ?_ | refine bsplit_false ?_)
      refine .inl ⟨_, _, rfl, c2, rfl, ?_⟩
      repeat' (first | refine bsplit_true ?_ | refine bsplit_false ?_)
      refine .inl ⟨_, _, rfl, c3, rfl, ?_⟩
      repeat' (first | refine bsplit_true ?_ | refine bsplit_false ?_)
      refine .inl ⟨_, _, rfl, c4.weak ⟨LVLe.d (DLe.l rfl (fun i hi => litD_eq [0, 0] i hi)), trivial⟩, rfl, ?_⟩
      repeat' (first | refine bsplit_true ?_ | refine bsplit_false ?_)
      refine .inl ⟨_, _, rfl, c5, rfl, ?_⟩
      repeat' (first | refine bsplit_true ?_ | refine bsplit_false ?_)
      refine bsplit_of_false hkc ?_
      repeat' (first | refine bsplit_true ?_ | refine bsplit_false ?_)
      refine .inl ⟨_, _, rfl, c6, rfl, ?_⟩
      repeat' (first | refine bsplit_true ?_ | refine bsplit_false ?_)
      refine ask_intro (by decide) ?_
      refine .inl ⟨_, _, rfl, c7, rfl, ?_⟩
      repeat' (first | refine bsplit_true ?_ | refine bsplit_false ?_)
      refine bsplit_of_false (decide_eq_false h1) ?_
      repeat' (first | refine bsplit_true ?_ | refine bsplit_false ?_)
      refine .inl ⟨_, _, rfl, c9, rfl, ?_⟩
      repeat' (first | refine bsplit_true ?_ | refine bsplit_false ?_)
      refine bsplit_of_true hkn ?_
      repeat' (first | refine bsplit_true ?_ | refine bsplit_false ?_)
      exact ⟨⟨rfl, rfl, rfl, ⟨rfl, rfl⟩, trivial⟩, rfl⟩
  · rw [if_neg hw] at hv c9
    obtain ⟨q1, q2⟩ := hwp hw
    subst hv
    cases b with
    | false =>
      refine fn_of lv54 Try.func54 rfl rfl (by kernel_rfl) rfl ?_
      refine .inl ⟨_, _, rfl, c1, rfl, ?_⟩
      repeat' (first | refine bsplit_true ?_ | refine bsplit_false ?_)
      refine .inl ⟨_, _, rfl, c2, rfl, ?_⟩
      repeat' (first | refine bsplit_true ?_ | refine bsplit_false ?_)
      refine .inl ⟨_, _, rfl, c3, rfl, ?_⟩
      repeat' (first | refine bsplit_true ?_ | refine bsplit_false ?_)
      refine .inl ⟨_, _, rfl, c4.weak ⟨LVLe.d (DLe.l rfl (fun i hi => litD_eq [0, 0] i hi)), trivial⟩, rfl, ?_⟩
      repeat' (first | refine bsplit_true ?_ | refine bsplit_false ?_)
      refine .inl ⟨_, _, rfl, c5, rfl, ?_⟩
      repeat' (first | refine bsplit_true ?_ | refine bsplit_false ?_)
      refine bsplit_of_false hkc ?_
      repeat' (first | refine bsplit_true ?_ | refine bsplit_false ?_)
      refine .inl ⟨_, _, rfl, c6, rfl, ?_⟩
      repeat' (first | refine bsplit_true ?_ | refine bsplit_false ?_)
      refine .inl ⟨_, _, rfl, c9, rfl, ?_⟩
      repeat' (first | refine bsplit_true ?_ | refine bsplit_false ?_)
      refine ask_intro (by decide) ?_
      refine ask_intro ⟨q1, by show pgOf a < (l.length : Int); omega, rfl⟩ ?_
      refine ask_intro (by decide) ?_
      refine .inl ⟨_, _, rfl, c10, rfl, ?_⟩
      repeat' (first | refine bsplit_true ?_ | refine bsplit_false ?_)
      refine chk_intro (by kernel_rfl) ?_
      exact ⟨⟨rfl, rfl, rfl, ⟨rfl, rfl, rfl, fun j hj => ⟨rfl, rfl⟩⟩, trivial⟩, rfl⟩
    | true =>
      have h1 : ¬ k ≥ 0 := fun h => h0 ⟨rfl, h⟩
      refine fn_of lv54 Try.func54 rfl rfl (by kernel_rfl) rfl ?_
      refine .inl ⟨_, _, rfl, c1, rfl, ?_⟩
      repeat' (first | refine bsplit_true ?_ | refine bsplit_false ?_)
      refine .inl ⟨_, _, rfl, c2, rfl, ?_⟩
      repeat' (first | refine bsplit_true ?_ | refine bsplit_false ?_)
      refine .inl ⟨_, _, rfl, c3, rfl, ?_⟩
      repeat' (first | refine bsplit_true ?_ | refine bsplit_false ?_)
      refine .inl ⟨_, _, rfl, c4.weak ⟨LVLe.d (DLe.l rfl (fun i hi => litD_eq [0, 0] i hi)), trivial⟩, rfl, ?_⟩
      repeat' (first | refine bsplit_true ?_ | refine bsplit_false ?_)
      refine .inl ⟨_, _, rfl, c5, rfl, ?_⟩
      repeat' (first | refine bsplit_true ?_ | refine bsplit_false ?_)
      refine bsplit_of_false hkc ?_
      repeat' (first | refine bsplit_true ?_ | refine bsplit_false ?_)
      refine .inl ⟨_, _, rfl, c6, rfl, ?_⟩
      repeat' (first | refine bsplit_true ?_ | refine bsplit_false ?_)
      refine ask_intro (by decide) ?_
      refine .inl ⟨_, _, rfl, c7, rfl, ?_⟩
      repeat' (first | refine bsplit_true ?_ | refine bsplit_false ?_)
      refine bsplit_of_false (decide_eq_false h1) ?_
      repeat' (first | refine bsplit_true ?_ | refine bsplit_false ?_)
      refine .inl ⟨_, _, rfl, c9, rfl, ?_⟩
      repeat' (first | refine bsplit_true ?_ | refine bsplit_false ?_)
      refine ask_intro (by decide) ?_
      refine ask_intro ⟨q1, by show pgOf a < (l.length : Int); omega, rfl⟩ ?_
      refine ask_intro (by decide) ?_
      refine .inl ⟨_, _, rfl, c10, rfl, ?_⟩
      repeat' (first | refine bsplit_true ?_ | refine bsplit_false ?_)
      refine chk_intro (by kernel_rfl) ?_
      exact ⟨⟨rfl, rfl, rfl, ⟨rfl, rfl, rfl, fun j hj => ⟨rfl, rfl⟩⟩, trivial⟩, rfl⟩
end Go.Proofs.Ytojaakpnpdnbhaa.L

/- What the functions compute that tell the words of a lonely machine's page: contracts. -/
set_option linter.unusedVariables false
set_option linter.unusedSimpArgs false
set_option maxRecDepth 100000
namespace Go.Proofs.Ytojaakpnpdnbhaa.L
open Go.RowKit
abbrev irsR (p : Int × List Int) : RV1 := .agg [.v (.int .i64 p.1), oInts p.2]
abbrev irsLV (p : Int × List Int) : LV := .agg [di p.1, .d (ints p.2)]
def soloWords (x : SoloM) (p : Int) : Int × List Int := if soloFault x = 0 then (bif !inR p 0 7 then (3, []) else (0, pageW x.mem p)) else (soloFault x, [])
theorem soloFault_mem {x : SoloM} (h : soloFault x = 0) : x.mem.length = 64 := by
  unfold soloFault at h
  split at h
  · split at h
    · cases hb : (memFault x.mem != 0) || ((x.mem.length : Int) != 64) with
      | true => rw [hb] at h; simp at h
      | false => simp only [Bool.or_eq_false_iff, bne_eq_false_iff_eq] at hb; omega
    · rename_i h2; exact absurd h h2
  · rename_i h2; exact absurd h h2
end Go.Proofs.Ytojaakpnpdnbhaa.L

/- What the law functions compute on an answer that is a code and a row of words: contracts. -/
set_option linter.unusedVariables false
set_option linter.unusedSimpArgs false
set_option maxRecDepth 100000
namespace Go.Proofs.Ytojaakpnpdnbhaa.L
open Go.RowKit
theorem c_laws_eqIntsResult (p q : Int × List Int) (hs : p.2.length ≤ 9223372036854775807) : FnOK Try.prog 27 [irsLV p, irsLV q] (rb (decide (p = q))) := by
  refine fn_of lv27 Try.func27 rfl rfl (by kernel_rfl) rfl ?_
  repeat' (first | refine bsplit_true ?_ | refine bsplit_false ?_ | refine .inl ⟨_, _, rfl, c_laws_eqInt64S p.2 q.2 hs, rfl, ?_⟩ | refine bsplit_intro (fun h => ?_) (fun h => ?_))
  all_goals refine ⟨⟨congrArg Value.bool ?_, trivial⟩, rfl⟩
  all_goals (obtain ⟨a1, a2⟩ := p; obtain ⟨b1, b2⟩ := q; simp_all)
theorem c_laws_markIntsResult (p : Int × List Int) (k : Int) (hf : p.2.length ≤ 1099511627776) (hk : 0 ≤ k) (hk2 : k ≤ 1099511627776) : MutOK Try.prog 30 [.agg [di p.1, .row 0], di k] 1 [(0, rowE p.2)] (di (k + p.2.length)) 1 [(0, rowM p.2 k)] := by
  refine mut_fn_of lv30 Try.func30 rfl rfl (by kernel_rfl) rfl [] ?_
  refine .inr ⟨rfl, use_mut ⟨_, _, _, _, _, _, rfl, rfl, c_laws_markInt64S p.2 k hf hk hk2, rfl, ?_⟩⟩
  exact chk_intro (by kernel_rfl) ⟨tellV_v rfl rfl, tellHp_row rfl rfl rfl (fun j hj => rfl) tellHp_nil⟩
theorem c_laws_heldIntsResult (p : Int × List Int) (k : Int) (hf : p.2.length ≤ 1099511627776) (hk : 0 ≤ k) (hk2 : k ≤ 1099511627776) : FnOK Try.prog 31 [.agg [di p.1, datM p.2 k], di k] (ri (k + p.2.length)) := by
  refine fn_of lv31 Try.func31 rfl rfl (by kernel_rfl) rfl ?_
  refine .inl ⟨_, _, rfl, c_laws_heldInt64S k p.2.length hf hk hk2, rfl, ?_⟩
  refine bsplit_of_false (decide_eq_false (show ¬ k + (p.2.length : Int) < 0 by omega)) ?_
  exact ⟨⟨rfl, trivial⟩, rfl⟩
end Go.Proofs.Ytojaakpnpdnbhaa.L

/- What the law functions compute that mark pages: contracts. -/
set_option linter.unusedVariables false
set_option linter.unusedSimpArgs false
set_option maxRecDepth 100000
namespace Go.Proofs.Ytojaakpnpdnbhaa.L
open Go.RowKit
abbrev rowP (l : List PageM) : Ent := .row 133 2 l.length (pagesF l)
/-- pages that bear the numbers from k on -/
abbrev pageMk (k : Int) (j : Nat) : List D := [.v (.int .i64 (k + 2 * (j : Int))), .v (.int .i64 (k + 2 * (j : Int) + 1))]
theorem c_laws_markPageS (l : List PageM) (k : Int) (hl : l.length ≤ 1099511627776) (hk : 0 ≤ k) (hk2 : k ≤ 1099511627776) :
    MutOK Try.prog 69 [.row 0, di k] 1 [(0, rowP l)] (di (k + 2 * l.length)) 1 [(0, .row 133 2 l.length (pageMk k))] := by
  refine mut_fn_of lv69 Try.func69 rfl rfl (by kernel_rfl) rfl [] ?_
  refine ⟨{ i : Nat // i ≤ l.length }, fun i => ⟨frL [(0, .row 0), (1, di (k + 2 * (i.1 : Int))), (5, di i.1)], hpL [(0, .row 133 2 l.length fun j => if j < i.1 then pageMk k j else pagesF l j)], 1, 1⟩, fun i => l.length - i.1, ⟨0, by omega⟩,
    le_of [] rfl rfl rfl rfl (tellHp_row rfl rfl rfl (fun i hi => rfl) tellHp_nil) (tellFr_row rfl rfl (tellFr_v rfl (congrArg (Value.int .i64) (?_ : k = k + 2 * ((0 : Nat) : Int))) (tellFr_v rfl rfl trivial))), ?_⟩
  · omega
  rintro ⟨i, hi⟩
  refine bsplit_intro (fun h => ?_) (fun h => ?_)
  · have h : i < l.length := by simp at h; exact h
    have w1 : IntKind.i64.wrap (k + 2 * (i : Int) + 1) = k + 2 * (i : Int) + 1 := wrap_i64 _ (by omega) (by omega)
    refine ask_intro ⟨by omega, by simp; omega⟩ ?_
    refine ask_intro (by show i < l.length; exact h) ?_
    refine ask_intro ⟨by omega, by simp; omega⟩ ?_
    refine ask_intro (by show i < l.length; exact h) ?_
    refine ⟨⟨i + 1, by omega⟩, le_of [] rfl rfl rfl rfl (tellHp_row rfl rfl rfl (fun j hj => ?_) tellHp_nil) (tellFr_row rfl rfl (tellFr_v rfl (congrArg (Value.int .i64) (?_ : IntKind.i64.wrap (IntKind.i64.wrap (k + 2 * (i : Int) + 1) + 1) = k + 2 * ((i + 1 : Nat) : Int))) (tellFr_v rfl (congrArg (Value.int .i64) (?_ : IntKind.i64.wrap ((i : Int) + 1) = ((i + 1 : Nat) : Int))) trivial))), by show l.length - (i + 1) < l.length - i; omega⟩
    · show (if j = i then splice (if j = i then splice (if j < i then pageMk k j else pagesF l j) 0 [D.v (.int .i64 (k + 2 * (i : Int)))] else if j < i then pageMk k j else pagesF l j) 1 [D.v (.int .i64 (IntKind.i64.wrap (k + 2 * (i : Int) + 1)))] else if j = i then splice (if j < i then pageMk k j else pagesF l j) 0 [D.v (.int .i64 (k + 2 * (i : Int)))] else if j < i then pageMk k j else pagesF l j) = if j < i + 1 then pageMk k j else pagesF l j
      by_cases h1 : j = i
      · subst h1
        rw [if_pos rfl, if_pos rfl, if_neg (by omega), if_pos (by omega), w1]
        rfl
      · rw [if_neg h1, if_neg h1]
        by_cases h2 : j < i
        · rw [if_pos h2, if_pos (by omega)]
        · rw [if_neg h2, if_neg (by omega)]
    · rw [w1, wrap_i64 _ (by omega) (by omega)]; omega
    · exact wrap_i64 (i + 1) (by omega) (by omega)
  · simp at h
    have e : i = l.length := by omega
    subst e
    refine chk_intro (by kernel_rfl) ⟨tellV_v rfl rfl, tellHp_row rfl rfl rfl (fun j hj => ?_) tellHp_nil⟩
    show (if j < l.length then pageMk k j else pagesF l j) = pageMk k j
    rw [if_pos hj]
end Go.Proofs.Ytojaakpnpdnbhaa.L

/- What the law functions compute over results that bear pages: contracts. -/
set_option linter.unusedVariables false
set_option linter.unusedSimpArgs false
set_option maxRecDepth 100000
namespace Go.Proofs.Ytojaakpnpdnbhaa.L
open Go.RowKit
abbrev pagesM (l : List PageM) (k : Int) : D := .l l.length (pageMk k)
abbrev rowPM (l : List PageM) (k : Int) : Ent := .row 133 2 l.length (pageMk k)
theorem c_laws_heldPageS (l : List PageM) (k : Int) (hl : l.length ≤ 1099511627776) (hk : 0 ≤ k) (hk2 : k ≤ 1099511627776) : FnOK Try.prog 98 [.d (pagesM l k), di k] (ri (k + 2 * l.length)) := by
  refine fn_of lv98 Try.func98 rfl rfl (by kernel_rfl) rfl ?_
  refine ⟨{ i : Nat // i ≤ l.length }, fun i => ⟨frL [(0, .d (pagesM l k)), (1, di (k + 2 * (i.1 : Int))), (5, di i.1)], hpL [], 0, 0⟩, fun i => l.length - i.1, ⟨0, by omega⟩,
    le_of [] rfl rfl rfl rfl trivial (tellFr_d rfl (DLe.refl _) (tellFr_v rfl (congrArg (Value.int .i64) (show k = k + 2 * ((0 : Nat) : Int) by omega)) (tellFr_v rfl rfl trivial))), ?_⟩
  rintro ⟨i, hi⟩
  refine bsplit_intro (fun h => ?_) (fun h => ?_)
  · have h : i < l.length := by simp at h; exact h
    have w1 : IntKind.i64.wrap (k + 2 * (i : Int) + 1) = k + 2 * (i : Int) + 1 := wrap_i64 _ (by omega) (by omega)
    have w2 : IntKind.i64.wrap (k + 2 * (i : Int) + 1 + 1) = k + 2 * ((i + 1 : Nat) : Int) := by rw [wrap_i64 _ (by omega) (by omega)]; omega
    refine ask_intro ⟨by omega, by simp; omega, rfl⟩ ?_
    refine bsplit_of_false (show (k + 2 * (i : Int) != k + 2 * (i : Int)) = false by simp) ?_
    refine ask_intro ⟨by omega, by simp; omega, rfl⟩ ?_
    refine bsplit_of_false (show (k + 2 * (i : Int) + 1 != IntKind.i64.wrap (k + 2 * (i : Int) + 1)) = false by rw [w1]; simp) ?_
    exact ⟨⟨i + 1, by omega⟩, le_of [] rfl rfl rfl rfl trivial (tellFr_d rfl (DLe.refl _) (tellFr_v rfl (congrArg (Value.int .i64) (by rw [w1, w2])) (tellFr_v rfl (congrArg (Value.int .i64) (wrap_i64 (i + 1) (by omega) (by omega) : IntKind.i64.wrap ((i : Int) + 1) = ((i + 1 : Nat) : Int))) trivial))), by show l.length - (i + 1) < l.length - i; omega⟩
  · simp at h
    have e : i = l.length := by omega
    subst e
    exact ⟨⟨rfl, trivial⟩, rfl⟩
theorem c_laws_eqPagesResult (p q : Int × List PageM) (hs : p.2.length ≤ 9223372036854775807) : FnOK Try.prog 34 [pgsLV p, pgsLV q] (rb (decide (p = q))) := by
  refine fn_of lv34 Try.func34 rfl rfl (by kernel_rfl) rfl ?_
  repeat' (first | refine bsplit_true ?_ | refine bsplit_false ?_ | refine .inl ⟨_, _, rfl, c_laws_eqPageS p.2 q.2 hs, rfl, ?_⟩ | refine bsplit_intro (fun h => ?_) (fun h => ?_))
  all_goals refine ⟨⟨congrArg Value.bool ?_, trivial⟩, rfl⟩
  all_goals (obtain ⟨a1, a2⟩ := p; obtain ⟨b1, b2⟩ := q; simp_all)
theorem c_laws_markPagesResult (p : Int × List PageM) (k : Int) (hf : p.2.length ≤ 1099511627776) (hk : 0 ≤ k) (hk2 : k ≤ 1099511627776) : MutOK Try.prog 35 [.agg [di p.1, .row 0], di k] 1 [(0, rowP p.2)] (di (k + 2 * p.2.length)) 1 [(0, rowPM p.2 k)] := by
  refine mut_fn_of lv35 Try.func35 rfl rfl (by kernel_rfl) rfl [] ?_
  refine .inr ⟨rfl, use_mut ⟨_, _, _, _, _, _, rfl, rfl, c_laws_markPageS p.2 k hf hk hk2, rfl, ?_⟩⟩
  exact chk_intro (by kernel_rfl) ⟨tellV_v rfl rfl, tellHp_row rfl rfl rfl (fun j hj => rfl) tellHp_nil⟩
theorem c_laws_heldPagesResult (p : Int × List PageM) (k : Int) (hf : p.2.length ≤ 1099511627776) (hk : 0 ≤ k) (hk2 : k ≤ 1099511627776) : FnOK Try.prog 36 [.agg [di p.1, .d (pagesM p.2 k)], di k] (ri (k + 2 * p.2.length)) := by
  refine fn_of lv36 Try.func36 rfl rfl (by kernel_rfl) rfl ?_
  refine .inl ⟨_, _, rfl, c_laws_heldPageS p.2 k hf hk hk2, rfl, ?_⟩
  refine bsplit_of_false (decide_eq_false (show ¬ k + 2 * (p.2.length : Int) < 0 by omega)) ?_
  exact ⟨⟨rfl, trivial⟩, rfl⟩
end Go.Proofs.Ytojaakpnpdnbhaa.L

/- The law function over a machine that goes back from a trap answers true. -/
set_option linter.unusedVariables false
set_option linter.unusedSimpArgs false
set_option maxRecDepth 100000
namespace Go.Proofs.Ytojaakpnpdnbhaa.L
open Go.RowKit
theorem backHart_few (m : HartM) (hf : m.few) (hs : m.small) : (backHart m).2.few ∧ (backHart m).2.small := by
  unfold backHart
  split
  · exact ⟨⟨hf.regs, by simpa [backM] using hf.csr, hf.inp, hf.out⟩, ⟨hs.regs, by simpa [backM] using hs.csr, hs.inp, hs.out⟩⟩
  · exact hartZ_few
end Go.Proofs.Ytojaakpnpdnbhaa.L

/- The law functions over a machine that is fed answer true. -/
set_option linter.unusedVariables false
set_option linter.unusedSimpArgs false
set_option maxRecDepth 100000
namespace Go.Proofs.Ytojaakpnpdnbhaa.L
open Go.RowKit
theorem hK_b (m : HartM) (k : Int) (hf : m.few) (h1 : 0 ≤ k) (h2 : k ≤ 1048576) : 0 ≤ hK4 m k ∧ hK4 m k ≤ k + 4194304 := by
  obtain ⟨b1, b2, b3, b4⟩ := hf
  unfold hK4 hK3 hK2 hK1
  omega
theorem ints_b (l : List Int) (k : Int) (hf : l.length ≤ 1048576) (h1 : 0 ≤ k) (h2 : k ≤ 1099511627776) : 0 ≤ k + l.length ∧ k + l.length ≤ k + 1048576 := by omega
theorem feedHart_few (m : HartM) (hf : m.few) (hs : m.small) (l : List Int) (hl : l.length ≤ 1048576) : (feedHart m l).2.few ∧ (feedHart m l).2.small := by
  unfold feedHart
  split
  · cases h1 : (!l.all isW)
    · cases h2 : decide ((m.inp.length : Int) + l.length > 40)
      · have h2 : ¬ ((m.inp.length : Int) + l.length > 40) := by simpa using h2
        have e : (m.inp ++ l).length = m.inp.length + l.length := by simp
        exact ⟨⟨hf.regs, hf.csr, by show (m.inp ++ l).length ≤ _; omega, hf.out⟩, ⟨hs.regs, hs.csr, by show (m.inp ++ l).length * 8 ≤ _; omega, hs.out⟩⟩
      · exact hartZ_few
    · exact hartZ_few
  · exact hartZ_few
end Go.Proofs.Ytojaakpnpdnbhaa.L

/- The law functions over a guest's own view answer true. -/
set_option linter.unusedVariables false
set_option linter.unusedSimpArgs false
set_option maxRecDepth 100000
namespace Go.Proofs.Ytojaakpnpdnbhaa.L
open Go.RowKit
abbrev okPages (l : List PageM) : Prop := l.length * 16 ≤ reachBytes ∧ ∀ x ∈ l, ok64 x.to ∧ ok64 x.kinds
theorem szq_of {q : Int} {n : Nat} (h : decide ((if q - (n : Int) < 0 then -1 else q - (n : Int)) < 0) = false) : (n : Int) ≤ q := by
  have := of_decide_eq_false h
  split at this <;> omega
theorem len2_b {α : Type} (l : List α) (k : Int) (hf : l.length ≤ 1048576) (h1 : 0 ≤ k) (h2 : k ≤ 1073741824) : 0 ≤ k + 2 * (l.length : Int) ∧ k + 2 * (l.length : Int) ≤ k + 2097152 := by omega
end Go.Proofs.Ytojaakpnpdnbhaa.L

/- What the law functions compute over answers with a cache: contracts; how a cache is read. -/
set_option linter.unusedVariables false
set_option linter.unusedSimpArgs false
set_option maxRecDepth 100000
namespace Go.Proofs.Ytojaakpnpdnbhaa.L
open Go.RowKit Go.ChangeShapes Go.WideShapes Go.ChangeAt
theorem reads_Hit : ReadsT Try.prog 165 4 HitM hitD (fun p => ok64 p.tag ∧ ok64 p.page ∧ ok64 p.to ∧ ok64 p.kinds) :=
  (ReadsT.struct (ok := _) Try.underlying165 (by kernel_rfl) (ReadsL.cons reads_int64 (.cons reads_int64 (.cons reads_int64 (.cons reads_int64 (.nil 4)))))).map (fun m => ⟨m.1, m.2.1, m.2.2.1, m.2.2.2.1⟩) (fun m h => ⟨⟨h.1, h.2.1, h.2.2.1, h.2.2.2.1⟩, rfl⟩)
theorem reads_hits : ReadsT Try.prog 96 1 (List HitM) (fun l => [hits l]) (fun l => l.length * 32 ≤ reachBytes ∧ ∀ p ∈ l, ok64 p.tag ∧ ok64 p.page ∧ ok64 p.to ∧ ok64 p.kinds) := ReadsT.slice reads_Hit Try.underlying96 (by kernel_rfl) (by decide) ⟨0, 0, 0, 0⟩ (by kernel_rfl)
abbrev okHits (l : List HitM) : Prop := l.length * 32 ≤ reachBytes ∧ ∀ p ∈ l, ok64 p.tag ∧ ok64 p.page ∧ ok64 p.to ∧ ok64 p.kinds
theorem len4_b {α : Type} (l : List α) (k : Int) (hf : l.length ≤ 1048576) (h1 : 0 ≤ k) (h2 : k ≤ 1073741824) : 0 ≤ k + 4 * (l.length : Int) ∧ k + 4 * (l.length : Int) ≤ k + 4194304 := by omega
theorem c_laws_eqCacheResult (p q : CacM) (hl : p.cac.length ≤ 9223372036854775807) : FnOK Try.prog 65 [cacLV p, cacLV q] (rb (decide (p = q))) := by
  refine fn_of lv65 Try.func65 rfl rfl (by kernel_rfl) rfl ?_
  repeat' (first | refine bsplit_true ?_ | refine bsplit_false ?_ | refine .inl ⟨_, _, rfl, c_laws_eqHitS p.cac q.cac hl, rfl, ?_⟩ | refine bsplit_intro (fun h => ?_) (fun h => ?_))
  all_goals refine ⟨⟨congrArg Value.bool ?_, trivial⟩, rfl⟩
  all_goals (obtain ⟨a1, a2, a3, a4⟩ := p; obtain ⟨b1, b2, b3, b4⟩ := q; simp_all)
theorem c_laws_markCacheResult (p : CacM) (k : Int) (hl : p.cac.length ≤ 1048576) (hk : 0 ≤ k) (hk2 : k ≤ 1073741824) : MutOK Try.prog 70 [.agg [di p.code, di p.val, dv (.bool p.hit), .row 0], di k] 1 [(0, rowHit p.cac)] (di (k + 4 * (p.cac.length : Int))) 1 [(0, rowHM p.cac k)] := by
  refine mut_fn_of lv70 Try.func70 rfl rfl (by kernel_rfl) rfl [] ?_
  refine .inr ⟨rfl, use_mut ⟨_, _, _, _, _, _, rfl, rfl, c_laws_markHitS p.cac k (by omega) hk (by omega), rfl, ?_⟩⟩
  exact chk_intro (by kernel_rfl) ⟨tellV_v rfl rfl, tellHp_row rfl rfl rfl (fun j hj => rfl) tellHp_nil⟩
theorem c_laws_heldCacheResult (p : CacM) (k : Int) (hl : p.cac.length ≤ 1048576) (hk : 0 ≤ k) (hk2 : k ≤ 1073741824) : FnOK Try.prog 71 [.agg [di p.code, di p.val, dv (.bool p.hit), .d (hitsM p.cac k)], di k] (ri (k + 4 * (p.cac.length : Int))) := by
  refine fn_of lv71 Try.func71 rfl rfl (by kernel_rfl) rfl ?_
  refine .inl ⟨_, _, rfl, c_laws_heldHitS p.cac k (by omega) hk (by omega), rfl, ?_⟩
  refine bsplit_of_false (decide_eq_false (show ¬ k + 4 * (p.cac.length : Int) < 0 by omega)) ?_
  exact ⟨⟨rfl, trivial⟩, rfl⟩
theorem walkC_few (c : List HitM) (tag : Int) (l : List PageM) (a kind : Int) : (walkC c tag l a kind).cac.length ≤ 1048576 := by
  unfold walkC
  split
  · rename_i h
    have h1 := cacheF_len (askedW_ok h).1
    have h2 := lessC_len c ⟨tag, pgOf a, (pageAt l a).to, (pageAt l a).kinds⟩
    have h3 : (walkL c tag l a kind).cac.length ≤ 1048576 := by
      unfold walkL
      split
      · simp
      · show (fillC c _).length ≤ _
        unfold fillC
        simp only [List.length_append, List.length_cons, List.length_nil]
        omega
    unfold walkB
    cases inR a 0 63 with
    | false => exact h3
    | true =>
      rw [cond_true]
      split
      · cases andI (c.getD (findH c tag (pgOf a)).toNat hit0).kinds kind == 0 with
        | true => simp
        | false => show c.length ≤ _; omega
      · exact h3
  · simp
end Go.Proofs.Ytojaakpnpdnbhaa.L

/- The law function FnExactWalkCached answers true. -/
set_option linter.unusedVariables false
set_option linter.unusedSimpArgs false
set_option maxRecDepth 100000
namespace Go.Proofs.Ytojaakpnpdnbhaa.L
open Go.RowKit
set_option maxHeartbeats 1600000 in
theorem c_laws_FnExactWalkCached (x0 : List HitM) (x1 : Int) (x2 : List PageM) (x3 : Int) (x4 : Int) (ho_x0 : okHits x0) (ho_x1 : ok64 x1) (ho_x2 : okPages x2) (ho_x3 : ok64 x3) (ho_x4 : ok64 x4) : FnOK Try.prog 10 [.d (hits x0), di x1, .d (Go.Proofs.Ytojaakpnpdnbhaa.L.pages x2), di x3, di x4] (rb true) := by
  have hl32_x0 : x0.length * 32 ≤ 140737488355328 := by have := ho_x0.1; rw [reach_eq] at this; omega
  have hl16_x2 : x2.length * 16 ≤ 140737488355328 := by have := ho_x2.1; rw [reach_eq] at this; omega
  refine fn_of lv10 Try.func10 rfl rfl (by kernel_rfl) rfl ?_
  refine .inl ⟨_, _, rfl, c_laws_szHitS x0 (1048576) (by omega) (by omega), rfl, ?_⟩
  refine bsplit_intro (fun h => ?_) (fun h => ?_)
  · exact ⟨⟨rfl, trivial⟩, rfl⟩
  have hf_x0 : x0.length ≤ 1048576 := by have := szq_of (q := 1048576) h; omega
  have hq_x0 : (if 1048576 - (x0.length : Int) < 0 then -1 else 1048576 - (x0.length : Int)) = 1048576 - (x0.length : Int) := if_neg (by omega)
  refine .inl ⟨_, _, rfl, c_laws_szPageS x2 ((if 1048576 - (x0.length : Int) < 0 then -1 else 1048576 - (x0.length : Int))) (by omega) (by omega), rfl, ?_⟩
  refine bsplit_intro (fun h => ?_) (fun h => ?_)
  · exact ⟨⟨rfl, trivial⟩, rfl⟩
  have hf_x2 : x2.length ≤ 1048576 := by have := szq_of (q := (if 1048576 - (x0.length : Int) < 0 then -1 else 1048576 - (x0.length : Int))) h; omega
  have cs := c_spec_WalkCached x0 hf_x0 x1 x2 hf_x2 x3 x4
  have ci := c_impl_WalkCached x0 hf_x0 x1 x2 hf_x2 x3 x4
  have hf := walkC_few x0 x1 x2 x3 x4
  obtain ⟨p, hp⟩ : ∃ p, p = walkC x0 x1 x2 x3 x4 := ⟨_, rfl⟩
  rw [← hp] at cs ci hf
  have hkp : 0 ≤ 1 + 4 * (p.cac.length : Int) := by omega
  have hk : ¬ 1 + 4 * (p.cac.length : Int) < 0 := by omega
  have hb0 := len4_b x0 (1) hf_x0 (by omega) (by omega)
  have hb1 := len2_b x2 ((1) + 4 * (x0.length : Int)) hf_x2 hb0.1 (by have := hb0.2; omega)
  refine .inl ⟨_, _, rfl, c_laws_toHitS x0 hl32_x0, rfl, ?_⟩
  repeat' (first | refine bsplit_true ?_ | refine bsplit_false ?_ | refine chk_intro (by kernel_rfl) ?_ | refine bsplit_of_false (by simp; done) ?_)
  refine .inl ⟨_, _, rfl, c_laws_toPageS x2 hl16_x2, rfl, ?_⟩
  repeat' (first | refine bsplit_true ?_ | refine bsplit_false ?_ | refine chk_intro (by kernel_rfl) ?_ | refine bsplit_of_false (by simp; done) ?_)
  refine .inl ⟨_, _, rfl, cs, rfl, ?_⟩
  repeat' (first | refine bsplit_true ?_ | refine bsplit_false ?_ | refine chk_intro (by kernel_rfl) ?_ | refine bsplit_of_false (by simp; done) ?_)
  refine .inl ⟨_, _, rfl, c_laws_toHitS x0 hl32_x0, rfl, ?_⟩
  repeat' (first | refine bsplit_true ?_ | refine bsplit_false ?_ | refine chk_intro (by kernel_rfl) ?_ | refine bsplit_of_false (by simp; done) ?_)
  refine .inl ⟨_, _, rfl, c_laws_toPageS x2 hl16_x2, rfl, ?_⟩
  repeat' (first | refine bsplit_true ?_ | refine bsplit_false ?_ | refine chk_intro (by kernel_rfl) ?_ | refine bsplit_of_false (by simp; done) ?_)
  refine .inl ⟨_, _, rfl, ci, rfl, ?_⟩
  repeat' (first | refine bsplit_true ?_ | refine bsplit_false ?_ | refine chk_intro (by kernel_rfl) ?_ | refine bsplit_of_false (by simp; done) ?_)
  refine .inl ⟨_, _, rfl, c_laws_eqCacheResult p p (by omega), rfl, ?_⟩
  repeat' (first | refine bsplit_true ?_ | refine bsplit_false ?_ | refine chk_intro (by kernel_rfl) ?_ | refine bsplit_of_false (by simp; done) ?_)
  refine .inl ⟨_, _, rfl, c_laws_toHitS x0 hl32_x0, rfl, ?_⟩
  repeat' (first | refine bsplit_true ?_ | refine bsplit_false ?_ | refine chk_intro (by kernel_rfl) ?_ | refine bsplit_of_false (by simp; done) ?_)
  refine .inl ⟨_, _, rfl, c_laws_eqHitS x0 x0 (by omega), rfl, ?_⟩
  repeat' (first | refine bsplit_true ?_ | refine bsplit_false ?_ | refine chk_intro (by kernel_rfl) ?_ | refine bsplit_of_false (by simp; done) ?_)
  refine .inl ⟨_, _, rfl, c_laws_toPageS x2 hl16_x2, rfl, ?_⟩
  repeat' (first | refine bsplit_true ?_ | refine bsplit_false ?_ | refine chk_intro (by kernel_rfl) ?_ | refine bsplit_of_false (by simp; done) ?_)
  refine .inl ⟨_, _, rfl, c_laws_eqPageS x2 x2 (by omega), rfl, ?_⟩
  repeat' (first | refine bsplit_true ?_ | refine bsplit_false ?_ | refine chk_intro (by kernel_rfl) ?_ | refine bsplit_of_false (by simp; done) ?_)
  refine .inr ⟨rfl, use_mut ⟨_, _, _, _, _, _, rfl, rfl, c_laws_markHitS x0 (1) (by omega) (by omega) (by omega), rfl, ?_⟩⟩
  repeat' (first | refine bsplit_true ?_ | refine bsplit_false ?_ | refine chk_intro (by kernel_rfl) ?_)
  refine .inr ⟨rfl, use_mut ⟨_, _, _, _, _, _, rfl, rfl, c_laws_markPageS x2 ((1) + 4 * (x0.length : Int)) (by omega) hb0.1 (by have := hb0.2; omega), rfl, ?_⟩⟩
  repeat' (first | refine bsplit_true ?_ | refine bsplit_false ?_ | refine chk_intro (by kernel_rfl) ?_)
  try refine bsplit_of_false (decide_eq_false (show ¬ (((1) + 4 * (x0.length : Int)) + 2 * (x2.length : Int)) < 0 by have := hb1.1; omega)) ?_
  repeat' (first | refine bsplit_true ?_ | refine bsplit_false ?_ | refine chk_intro (by kernel_rfl) ?_ | refine bsplit_of_false (by simp; done) ?_)
  refine .inl ⟨_, _, rfl, c_laws_eqCacheResult p p (by omega), rfl, ?_⟩
  repeat' (first | refine bsplit_true ?_ | refine bsplit_false ?_ | refine chk_intro (by kernel_rfl) ?_ | refine bsplit_of_false (by simp; done) ?_)
  refine .inr ⟨rfl, use_mut ⟨_, _, _, _, _, _, rfl, rfl, c_laws_markCacheResult p 1 (by omega) (by omega) (by omega), rfl, ?_⟩⟩
  repeat' (first | refine bsplit_true ?_ | refine bsplit_false ?_ | refine chk_intro (by kernel_rfl) ?_)
  refine .inl ⟨_, _, rfl, c_laws_heldCacheResult p 1 (by omega) (by omega) (by omega), rfl, ?_⟩
  repeat' (first | refine bsplit_true ?_ | refine bsplit_false ?_ | refine chk_intro (by kernel_rfl) ?_)
  try refine bsplit_of_false (decide_eq_false hk) ?_
  repeat' (first | refine bsplit_true ?_ | refine bsplit_false ?_ | refine chk_intro (by kernel_rfl) ?_ | refine bsplit_of_false (by simp; done) ?_)
  refine .inl ⟨_, _, rfl, c_laws_toHitS x0 hl32_x0, rfl, ?_⟩
  repeat' (first | refine bsplit_true ?_ | refine bsplit_false ?_ | refine chk_intro (by kernel_rfl) ?_ | refine bsplit_of_false (by simp; done) ?_)
  refine .inl ⟨_, _, rfl, c_laws_toPageS x2 hl16_x2, rfl, ?_⟩
  repeat' (first | refine bsplit_true ?_ | refine bsplit_false ?_ | refine chk_intro (by kernel_rfl) ?_ | refine bsplit_of_false (by simp; done) ?_)
  refine .inl ⟨_, _, rfl, ci, rfl, ?_⟩
  repeat' (first | refine bsplit_true ?_ | refine bsplit_false ?_ | refine chk_intro (by kernel_rfl) ?_ | refine bsplit_of_false (by simp; done) ?_)
  refine .inl ⟨_, _, rfl, c_laws_eqCacheResult p p (by omega), rfl, ?_⟩
  repeat' (first | refine bsplit_true ?_ | refine bsplit_false ?_ | refine chk_intro (by kernel_rfl) ?_ | refine bsplit_of_false (by simp; done) ?_)
  refine .inl ⟨_, _, rfl, c_laws_heldCacheResult p 1 (by omega) (by omega) (by omega), rfl, ?_⟩
  repeat' (first | refine bsplit_true ?_ | refine bsplit_false ?_ | refine chk_intro (by kernel_rfl) ?_)
  try refine bsplit_of_false (decide_eq_false hk) ?_
  repeat' (first | refine bsplit_true ?_ | refine bsplit_false ?_ | refine chk_intro (by kernel_rfl) ?_ | refine bsplit_of_false (by simp; done) ?_)
  exact ⟨⟨rfl, trivial⟩, rfl⟩

end Go.Proofs.Ytojaakpnpdnbhaa.L

/- The law FnExactWalkCached answers true at every input that its statement lets in. -/
set_option linter.unusedVariables false
set_option maxRecDepth 100000
namespace Go.Proofs.Ytojaakpnpdnbhaa.L.FnExactWalkCached
open Go.RowKit Go.ChangeShapes Go.WideShapes Go.ChangeAt
theorem lifted (os : Os) (started : os.Started) (H : Type) (enc : TypeId × Value → H) :
    ReturnsInHanded {} Try.checked os 10 .any (Rows.fnExactWalkCachedSpec.pre6 enc Try.prog Try.f10 Rows.fnExactWalkCachedRow.domain false) (Rows.fnExactWalkCachedSpec.post enc Try.prog Try.f10 false true false false) := by
  refine returnsInHanded_of_change_sized (C := Try.checked) own started (by kernel_rfl) Try.func10
    (ChangeSpec.witness6 (enc := enc) (C := Try.checked) false ⟨#[], #[.slice none 0 0, .int .i64 0, .slice none 0 0, .int .i64 0, .int .i64 0], []⟩ 8 (by kernel_rfl) (by kernel_rfl) (by kernel_rfl) (by kernel_rfl)) ?_
  intro W base args ds gs before hval0 hW hcnd hsz0 _
  have hsz : (DataW.weightsEach Try.prog (Try.f10.params.toList ++ Rows.fnExactWalkCachedSpec.plain.varTypes Try.prog) (ds ++ gs)).all (· ≤ reachBytes) = true := hsz0
  have hval : ∀ (j : Nat) t v, Try.f10.params[j]? = some t → args[j]? = some v → Value.okWide Try.prog W .any base t v := hval0
  have hW' := hW
  obtain ⟨p, q, hA0, hV, rfl, hfz, hnd⟩ := hW
  have hA : DataW.TrodAll enc Try.prog W 0 (fun _ => true) true Try.f10.params.toList args.toList ds p := hA0
  rw [Try.params10] at hA hval hsz
  obtain ⟨v0, vs0, d0, ds0, p0, q0, hargs, rfl, rfl, h0, r0⟩ := trodAll_cons hA
  obtain ⟨v1, vs1, d1, ds1, p1, q1, rfl, rfl, rfl, h1, r1⟩ := trodAll_cons r0
  obtain ⟨v2, vs2, d2, ds2, p2, q2, rfl, rfl, rfl, h2, r2⟩ := trodAll_cons r1
  obtain ⟨v3, vs3, d3, ds3, p3, q3, rfl, rfl, rfl, h3, r3⟩ := trodAll_cons r2
  obtain ⟨v4, vs4, d4, ds4, p4, q4, rfl, rfl, rfl, h4, r4⟩ := trodAll_cons r3
  obtain ⟨rfl, rfl, rfl⟩ := trodAll_nil r4
  obtain rfl : args = #[v0, v1, v2, v3, v4] := by cases args; simp_all
  obtain ⟨rfl, rfl⟩ := trodVars_none hV
  have hsm : ∀ k ∈ DataW.weightsEach Try.prog ([96, 2, 97, 2, 2] ++ Rows.fnExactWalkCachedSpec.plain.varTypes Try.prog) ([d0, d1, d2, d3, d4] ++ []), k ≤ reachBytes := fun k hk => by simpa using List.all_eq_true.1 hsz k hk
  have k0 := h0
  have lt0 : ∀ x ∈ p0, x.block < W.heap.size := by obtain ⟨m, hm⟩ := k0; exact DataW.trod_lt m _ _ _ hm
  have c0 : v0.cells = #[v0] := by have z := okWide_slice Try.underlying96 (hval 0 96 v0 rfl rfl); (first | (obtain ⟨_, rfl⟩ := z; rfl) | (obtain ⟨_, _, _, rfl⟩ := z; rfl))
  obtain ⟨m0, hm0, hvr0⟩ := reads_hits.one c0 h0 (fun k hk => hsm k (DataW.weights_mem_each (j := 0) rfl rfl k hk))
  have k1 := h1
  have lt1 : ∀ x ∈ p1, x.block < W.heap.size := by obtain ⟨m, hm⟩ := k1; exact DataW.trod_lt m _ _ _ hm
  have c1 : v1.cells = #[v1] := by have z := okWide_int Try.underlying2 (hval 1 2 v1 rfl rfl); (first | (obtain ⟨_, rfl⟩ := z; rfl) | (obtain ⟨_, _, _, rfl⟩ := z; rfl))
  obtain ⟨m1, hm1, hvr1⟩ := reads_int64.one c1 h1 (fun k hk => hsm k (DataW.weights_mem_each (j := 1) rfl rfl k hk))
  have k2 := h2
  have lt2 : ∀ x ∈ p2, x.block < W.heap.size := by obtain ⟨m, hm⟩ := k2; exact DataW.trod_lt m _ _ _ hm
  have c2 : v2.cells = #[v2] := by have z := okWide_slice Try.underlying97 (hval 2 97 v2 rfl rfl); (first | (obtain ⟨_, rfl⟩ := z; rfl) | (obtain ⟨_, _, _, rfl⟩ := z; rfl))
  obtain ⟨m2, hm2, hvr2⟩ := reads_pages.one c2 h2 (fun k hk => hsm k (DataW.weights_mem_each (j := 2) rfl rfl k hk))
  have k3 := h3
  have lt3 : ∀ x ∈ p3, x.block < W.heap.size := by obtain ⟨m, hm⟩ := k3; exact DataW.trod_lt m _ _ _ hm
  have c3 : v3.cells = #[v3] := by have z := okWide_int Try.underlying2 (hval 3 2 v3 rfl rfl); (first | (obtain ⟨_, rfl⟩ := z; rfl) | (obtain ⟨_, _, _, rfl⟩ := z; rfl))
  obtain ⟨m3, hm3, hvr3⟩ := reads_int64.one c3 h3 (fun k hk => hsm k (DataW.weights_mem_each (j := 3) rfl rfl k hk))
  have k4 := h4
  have lt4 : ∀ x ∈ p4, x.block < W.heap.size := by obtain ⟨m, hm⟩ := k4; exact DataW.trod_lt m _ _ _ hm
  have c4 : v4.cells = #[v4] := by have z := okWide_int Try.underlying2 (hval 4 2 v4 rfl rfl); (first | (obtain ⟨_, rfl⟩ := z; rfl) | (obtain ⟨_, _, _, rfl⟩ := z; rfl))
  obtain ⟨m4, hm4, hvr4⟩ := reads_int64.one c4 h4 (fun k hk => hsm k (DataW.weights_mem_each (j := 4) rfl rfl k hk))
  refine ((c_laws_FnExactWalkCached m0 m1 m2 m3 m4 hm0 hm1 hm2 hm3 hm4).calls W (Mem W) [v0, v1, v2, v3, v4] (fun b hb => hb) rfl (fun j hj => ?_)).mono fun e W' ⟨v, he, bel, hrr⟩ => ?_
  · match j, hj with
    | 0, _ => exact hvr0
    | 1, _ => exact hvr1
    | 2, _ => exact hvr2
    | 3, _ => exact hvr3
    | 4, _ => exact hvr4
    | j + 5, hj => exact absurd hj (by simp)
  · obtain ⟨us, J, hl, rfl, hJ, hok, _, _⟩ := hrr.ex
    have h1 := hok 0 _ rfl
    have h2 : RV.val us (rb true) = .bool true := h1
    rw [h2] at he
    subst he
    exact ⟨_, rfl, _, _, _, [], _, [], hW', trodAll_mk1 (shut_bool Try.underlying4 _), (trodAll_cons_mk (Below.trod laidOut (by kernel_rfl) (of_decide_eq_true (by kernel_rfl)) k0 bel lt0) (trodAll_cons_mk (Below.trod laidOut (by kernel_rfl) (of_decide_eq_true (by kernel_rfl)) k1 bel lt1) (trodAll_cons_mk (Below.trod laidOut (by kernel_rfl) (of_decide_eq_true (by kernel_rfl)) k2 bel lt2) (trodAll_cons_mk (Below.trod laidOut (by kernel_rfl) (of_decide_eq_true (by kernel_rfl)) k3 bel lt3) (trodAll_cons_mk (Below.trod laidOut (by kernel_rfl) (of_decide_eq_true (by kernel_rfl)) k4 bel lt4) trodAll_mk0))))), rfl, bel.frame _, fun h => by cases h⟩
theorem over : Rows.fnExactWalkCachedRow.holds Try.pinned (OpenSpec.ofChange Rows.fnExactWalkCachedSpec) :=
  OpenClaim.holds_of_wide 10 Try.f10 rfl rfl rfl rfl rfl rfl rfl ⟨rfl, rfl, rfl, rfl, rfl⟩ rfl rfl rfl rfl rfl (by kernel_rfl) Try.func10 (by kernel_rfl)
    (of_decide_eq_true (by kernel_rfl)) (by unfold Func.isWrapper; first | (rw [if_pos (by decide +kernel)]; kernel_rfl) | (rw [if_neg (by decide +kernel)]; exact ⟨rfl, rfl⟩))
    (fun os started H enc _ => lifted os started H enc)
end Go.Proofs.Ytojaakpnpdnbhaa.L.FnExactWalkCached
namespace Go.Proofs.Ytojaakpnpdnbhaa
theorem fnExactWalkCached_holds : Rows.FnExactWalkCachedSaid := L.FnExactWalkCached.over
#print axioms fnExactWalkCached_holds
end Go.Proofs.Ytojaakpnpdnbhaa
