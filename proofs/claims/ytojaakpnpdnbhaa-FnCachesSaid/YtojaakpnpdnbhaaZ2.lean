/- The law FnCaches answers true at every input that its statement lets in. -/
import Derived.Test.YtojaakpnpdnbhaaRows
import Derived.Test.YtojaakpnpdnbhaaZ1
/- What the functions compute that tell a guest's own view: contracts. -/
set_option linter.unusedVariables false
set_option linter.unusedSimpArgs false
set_option maxRecDepth 100000
namespace Go.Proofs.Ytojaakpnpdnbhaa.L
open Go.RowKit
theorem firstNZ_zero {l : List Int} (h : firstNZ l = 0) : ∀ x ∈ l, x = 0 := by
  induction l with
  | nil => intro x hx; simp at hx
  | cons a l ih =>
    simp only [firstNZ] at h
    split at h
    · rename_i h0
      intro x hx
      rcases List.mem_cons.1 hx with rfl | hx
      · exact h0
      · exact ih h x hx
    · rename_i h0
      exact absurd h h0
theorem pagesFault_ok {l : List PageM} {top : Int} (h : pagesFault l top = 0) : PgsOK l top := by
  unfold pagesFault at h
  obtain ⟨h1, h⟩ := bif_zero h (by decide)
  obtain ⟨h2, h⟩ := bif_zero h (by decide)
  refine ⟨by simp at h2; omega, fun p hp => ?_⟩
  have h3 := firstNZ_zero h _ (List.mem_map_of_mem hp)
  unfold pageBad at h3
  obtain ⟨h4, h3⟩ := bif_zero h3 (by decide)
  simp only [Bool.or_eq_false_iff, Bool.not_eq_eq_eq_not, Bool.not_false, inR_iff] at h4
  omega
structure MemOK (m : List Int) : Prop where
  pos : 0 < m.length
  le : m.length ≤ 192
  mod : m.length % 8 = 0
  word : ∀ x ∈ m, isW x = true
theorem memFault_ok {m : List Int} (h : memFault m = 0) : MemOK m := by
  unfold memFault at h
  obtain ⟨h1, h⟩ := bif_zero h (by decide)
  obtain ⟨h2, h⟩ := bif_zero h (by decide)
  simp only [Bool.or_eq_false_iff, bne_eq_false_iff_eq, beq_eq_false_iff_ne, decide_eq_false_iff_not] at h1
  have h3 : Int.tmod (m.length : Int) 8 = (m.length : Int) % 8 := Int.tmod_eq_emod_of_nonneg (by omega)
  rw [h3] at h1
  exact ⟨by omega, by omega, by omega, fun x hx => List.all_eq_true.1 (by simpa using h2) x hx⟩
abbrev pageTop (mem : List Int) : Int := IntKind.i64.wrap (Int.tdiv mem.length 8)
theorem pageTop_eq {mem : List Int} (h : MemOK mem) : pageTop mem * 8 = mem.length := by
  have h1 : Int.tdiv (mem.length : Int) 8 = (mem.length : Int) / 8 := Int.tdiv_eq_ediv_of_nonneg (by omega)
  have := h.mod
  have := h.le
  unfold pageTop
  rw [h1, wrap_i64 _ (by omega) (by omega)]
  omega
def stepF (m : HartM) (l : List PageM) (mem : List Int) : Int :=
  if hFault m = 0 then (if pagesFault l 24 = 0 then (bif (memFault mem != 0) || l.any (fun p => decide (p.to ≥ pageTop mem)) then 1 else 0) else pagesFault l 24) else hFault m
theorem firstNZ_two (a b : Int) : firstNZ [a, b] = if a = 0 then b else a := by
  simp only [firstNZ]
  split
  · split
    · rename_i h; exact h.symm
    · rfl
  · rfl
theorem stepF_any {l : List PageM} {mem : List Int} (hp : pagesFault l 24 = 0) (hm : memFault mem = 0) (i : Nat) (hi : i < l.length) :
    decide (IntKind.i64.wrap (IntKind.i64.wrap ((l.getD i ⟨0, 0⟩).to + 1) * 8) > (mem.length : Int)) = decide ((l.getD i ⟨0, 0⟩).to ≥ pageTop mem) := by
  have h1 := (pagesFault_ok hp).get (i := i) (by rw [← (pagesFault_ok hp).len]; exact hi)
  have h2 := pageTop_eq (memFault_ok hm)
  generalize (l.getD i ⟨0, 0⟩).to = t at *
  rw [wrap_i64 (t + 1) (by omega) (by omega), wrap_i64 _ (by omega) (by omega)]
  exact decide_eq_decide.2 (by omega)
def idPages : List PageM := (List.range 8).map fun (i : Nat) => (⟨(i : Int), 7⟩ : PageM)
def spaceM (m : HartM) (l : List PageM) (mem : List Int) : Int × List PageM :=
  if m.csr.getD 10 0 = 0 then (0, idPages) else
  bif (decide ((l.getD (m.csr.getD 10 0 - 1).toNat ⟨0, 0⟩).to < 0) || (andI (l.getD (m.csr.getD 10 0 - 1).toNat ⟨0, 0⟩).kinds 1 == 0)) || (m.csr.getD 10 0 == 8) then (7, []) else (0, (pageW mem (l.getD (m.csr.getD 10 0 - 1).toNat ⟨0, 0⟩).to).map entryP)
/-- a machine over a memory with which nothing is wrong -/
structure StepOK (m : HartM) (l : List PageM) (mem : List Int) : Prop where
  hart : m.right
  pgs : PgsOK l 24
  ram : MemOK mem
  top : ∀ p ∈ l, (p.to + 1) * 8 ≤ mem.length
theorem stepF_ok {m : HartM} {l : List PageM} {mem : List Int} (h : stepF m l mem = 0) : StepOK m l mem := by
  unfold stepF at h
  split at h
  · rename_i h0
    split at h
    · rename_i h1
      obtain ⟨h2, _⟩ := bif_zero h (by decide)
      simp only [Bool.or_eq_false_iff, bne_eq_false_iff_eq] at h2
      refine ⟨hFault_right h0, pagesFault_ok h1, memFault_ok h2.1, fun p hp => ?_⟩
      have h3 := List.any_eq_false.1 h2.2 p hp
      have h4 := pageTop_eq (memFault_ok h2.1)
      simp only [decide_eq_true_eq] at h3
      omega
    · rename_i h1; exact absurd h h1
  · rename_i h0; exact absurd h h0
theorem StepOK.table {m : HartM} {l : List PageM} {mem : List Int} (h : StepOK m l mem) : 0 ≤ m.csr.getD 10 0 ∧ m.csr.getD 10 0 ≤ 8 := by
  refine ⟨?_, h.hart.c10⟩
  rw [getD_at _ (by rw [h.hart.csr]; omega)]
  exact (isW_iff.1 (h.hart.wc _ (List.getElem_mem _))).1
theorem StepOK.page {m : HartM} {l : List PageM} {mem : List Int} (h : StepOK m l mem) {i : Nat} (hi : i < 8) : -1 ≤ (l.getD i ⟨0, 0⟩).to ∧ (l.getD i ⟨0, 0⟩).to < 24 ∧ ((l.getD i ⟨0, 0⟩).to + 1) * 8 ≤ mem.length := by
  have h1 := h.pgs.get hi
  refine ⟨h1.1, h1.2, ?_⟩
  rw [getD_at _ (by rw [h.pgs.len]; exact hi)]
  exact h.top _ (List.getElem_mem _)
theorem pagesFrom_page {mem : List Int} (hm : MemOK mem) {p : Int} (h0 : 0 ≤ p) (h : (p + 1) * 8 ≤ mem.length) : pagesFrom (pageW mem p) = (0, (pageW mem p).map entryP) := by
  have h8 := pageW_len mem p h0 h
  have hw : (pageW mem p).all isW = true := List.all_eq_true.2 (fun x hx => hm.word x (List.mem_of_mem_drop (List.mem_of_mem_take hx)))
  unfold pagesFrom
  rw [h8, hw]
  rfl
theorem id_get (i : Nat) (hi : i < 8) : idPages.take i ++ [⟨(i : Int), 7⟩] = idPages.take (i + 1) := by
  have : i = 0 ∨ i = 1 ∨ i = 2 ∨ i = 3 ∨ i = 4 ∨ i = 5 ∨ i = 6 ∨ i = 7 := by omega
  rcases this with rfl | rfl | rfl | rfl | rfl | rfl | rfl | rfl <;> rfl
abbrev busD (m : HartM) (l : List PageM) (mem : List Int) : List D := [pages l, ints mem, dI 0, ints m.regs, dI m.pc, ints m.csr, dB m.halted, dB m.waiting, dB m.rung, dI m.done, ints m.inp, ints m.out, dI 0]
theorem space_walk {m : HartM} {l : List PageM} {mem : List Int} (ok : StepOK m l mem) (h0 : 0 < m.csr.getD 10 0) :
    IntKind.i64.wrap (IntKind.i64.wrap (m.csr.getD 10 0 - 1) * 8) = (m.csr.getD 10 0 - 1) * 8 ∧ walkP l ((m.csr.getD 10 0 - 1) * 8) 1 = bif decide ((l.getD (m.csr.getD 10 0 - 1).toNat ⟨0, 0⟩).to < 0) || (andI (l.getD (m.csr.getD 10 0 - 1).toNat ⟨0, 0⟩).kinds 1 == 0) then -1 else (l.getD (m.csr.getD 10 0 - 1).toNat ⟨0, 0⟩).to * 8 := by
  have ht := ok.table
  have hin : inR ((m.csr.getD 10 0 - 1) * 8) 0 63 = true := inR_iff.2 ⟨by omega, by omega⟩
  have hd := div8 (a := (m.csr.getD 10 0 - 1) * 8) (by omega) (by omega)
  have e1 : Int.tdiv ((m.csr.getD 10 0 - 1) * 8) 8 = m.csr.getD 10 0 - 1 := by rw [Int.tdiv_eq_ediv_of_nonneg (by omega)]; omega
  have e2 : Int.tmod ((m.csr.getD 10 0 - 1) * 8) 8 = 0 := by rw [Int.tmod_eq_emod_of_nonneg (by omega)]; omega
  have ea : pageAt l ((m.csr.getD 10 0 - 1) * 8) = l.getD (m.csr.getD 10 0 - 1).toNat ⟨0, 0⟩ := by unfold pageAt; rw [hd.1, e1]
  have hw := fun h => (walk_get (at_ := (m.csr.getD 10 0 - 1) * 8) ok.pgs (by omega) hin h).1
  rw [ea, e2] at hw
  have ew : IntKind.i64.wrap (m.csr.getD 10 0 - 1) = m.csr.getD 10 0 - 1 := wrap_i64 _ (by omega) (by omega)
  refine ⟨by rw [ew, wrap_i64 _ (by omega) (by omega)], ?_⟩
  unfold walkP
  rw [hin, ea, e2]
  cases hb : decide ((l.getD (m.csr.getD 10 0 - 1).toNat ⟨0, 0⟩).to < 0) || (andI (l.getD (m.csr.getD 10 0 - 1).toNat ⟨0, 0⟩).kinds 1 == 0) with
  | true => rfl
  | false =>
    simp only [Bool.not_true, cond_false]
    rw [hw (of_decide_eq_false (Bool.or_eq_false_iff.1 hb).1)]
    omega
def spaceOf (m : HartM) (l : List PageM) (mem : List Int) : Int × List PageM := if stepF m l mem = 0 then spaceM m l mem else (stepF m l mem, [])
theorem spaceM_1 (m : HartM) (l : List PageM) (mem : List Int) : spaceM m l mem = (0, (spaceM m l mem).2) ∨ spaceM m l mem = (7, []) := by
  unfold spaceM
  split
  · exact .inl rfl
  · generalize (decide ((l.getD (m.csr.getD 10 0 - 1).toNat ⟨0, 0⟩).to < 0) || (andI (l.getD (m.csr.getD 10 0 - 1).toNat ⟨0, 0⟩).kinds 1 == 0) || (m.csr.getD 10 0 == 8)) = b
    cases b
    · exact .inl rfl
    · exact .inr rfl
theorem spaceM_len {m : HartM} {l : List PageM} {mem : List Int} (ok : StepOK m l mem) : (spaceM m l mem).2.length ≤ 8 := by
  unfold spaceM
  split
  · show idPages.length ≤ 8
    decide
  · generalize (decide ((l.getD (m.csr.getD 10 0 - 1).toNat ⟨0, 0⟩).to < 0) || (andI (l.getD (m.csr.getD 10 0 - 1).toNat ⟨0, 0⟩).kinds 1 == 0) || (m.csr.getD 10 0 == 8)) = b
    cases b
    · show ((pageW mem _).map entryP).length ≤ 8
      rw [List.length_map]
      unfold pageW
      rw [List.length_take]
      omega
    · simp
theorem spaceOf_few (m : HartM) (l : List PageM) (mem : List Int) : (spaceOf m l mem).2.length ≤ 8 := by
  unfold spaceOf
  split
  · rename_i h; exact spaceM_len (stepF_ok h)
  · simp
end Go.Proofs.Ytojaakpnpdnbhaa.L

/- A walk by a cache: contracts. -/
set_option linter.unusedVariables false
set_option linter.unusedSimpArgs false
set_option maxRecDepth 100000
namespace Go.Proofs.Ytojaakpnpdnbhaa.L
open Go.RowKit
structure CacM where
  code : Int
  val : Int
  hit : Bool
  cac : List HitM
  deriving DecidableEq
abbrev cacR (p : CacM) : RV1 := .agg [.v (.int .i64 p.code), .v (.int .i64 p.val), .v (.bool p.hit), oHits p.cac]
abbrev cacLV (p : CacM) : LV := .agg [di p.code, di p.val, dv (.bool p.hit), .d (hits p.cac)]
def askedW (c : List HitM) (tag : Int) (l : List PageM) (kind : Int) : Int := if cacheF c = 0 then (bif !inR tag 0 9 then 3 else if pagesFault l 24 = 0 then (bif !kindOk kind then 3 else 0) else pagesFault l 24) else cacheF c
abbrev pgOf (a : Int) : Int := IntKind.i64.wrap (Int.tdiv a 8)
abbrev placeW (to a : Int) : Int := IntKind.i64.wrap (IntKind.i64.wrap (to * 8) + Int.tmod a 8)
def walkL (c : List HitM) (tag : Int) (l : List PageM) (a kind : Int) : CacM := if walkP l a kind < 0 then ⟨kindC kind, 0, false, []⟩ else ⟨0, walkP l a kind, false, fillC c ⟨tag, pgOf a, (pageAt l a).to, (pageAt l a).kinds⟩⟩
def walkB (c : List HitM) (tag : Int) (l : List PageM) (a kind : Int) : CacM :=
  bif inR a 0 63 then (if findH c tag (pgOf a) ≥ 0 then (bif andI (c.getD (findH c tag (pgOf a)).toNat hit0).kinds kind == 0 then ⟨kindC kind, 0, false, []⟩ else ⟨0, placeW (c.getD (findH c tag (pgOf a)).toNat hit0).to a, true, c⟩) else walkL c tag l a kind) else walkL c tag l a kind
def walkC (c : List HitM) (tag : Int) (l : List PageM) (a kind : Int) : CacM := if askedW c tag l kind = 0 then walkB c tag l a kind else ⟨askedW c tag l kind, 0, false, []⟩
theorem c_spec_l5Asked (c : List HitM) (hc : c.length ≤ 1048576) (tag : Int) (l : List PageM) (hl : l.length ≤ 1048576) (kind : Int) : FnOK Try.prog 134 [.d (hits c), di tag, .d (Go.Proofs.Ytojaakpnpdnbhaa.L.pages l), di kind] (ri (askedW c tag l kind)) := by
  have c1 := c_spec_CacheFault c (by omega)
  have c2 := c_spec_l1In tag 0 9
  have c3 := c_spec_PagesFault l 24 hl
  have c4 := c_spec_l4Kind kind
  generalize hv : askedW c tag l kind = v
  unfold askedW at hv
  generalize cacheF c = e at *
  generalize pagesFault l 24 = e2 at *
  generalize inR tag 0 9 = b1 at *
  generalize kindOk kind = b2 at *
  refine fn_of lv134 Try.func134 rfl rfl (by kernel_rfl) rfl ?_
  refine .inl ⟨_, _, rfl, c1, rfl, ?_⟩
  refine bsplit_intro (fun h => ?_) (fun h => ?_)
  · rw [if_neg (by simpa using h)] at hv
    exact ⟨⟨congrArg (Value.int .i64) hv, trivial⟩, rfl⟩
  rw [if_pos (by simpa using h)] at hv
  refine .inl ⟨_, _, rfl, c2, rfl, ?_⟩
  refine bsplit_intro (fun h1 => ?_) (fun h1 => ?_)
  · rw [show (!b1) = true from h1] at hv
    exact ⟨⟨congrArg (Value.int .i64) hv, trivial⟩, rfl⟩
  rw [show (!b1) = false from h1, cond_false] at hv
  refine .inl ⟨_, _, rfl, c3, rfl, ?_⟩
  refine bsplit_intro (fun h2 => ?_) (fun h2 => ?_)
  · rw [if_neg (by simpa using h2)] at hv
    exact ⟨⟨congrArg (Value.int .i64) hv, trivial⟩, rfl⟩
  rw [if_pos (by simpa using h2)] at hv
  refine .inl ⟨_, _, rfl, c4, rfl, ?_⟩
  refine bsplit_intro (fun h3 => ?_) (fun h3 => ?_)
  · rw [show (!b2) = true from h3] at hv
    exact ⟨⟨congrArg (Value.int .i64) hv, trivial⟩, rfl⟩
  · rw [show (!b2) = false from h3] at hv
    exact ⟨⟨congrArg (Value.int .i64) hv, trivial⟩, rfl⟩
theorem askedW_ok {c : List HitM} {tag : Int} {l : List PageM} {kind : Int} (h : askedW c tag l kind = 0) : cacheF c = 0 ∧ pagesFault l 24 = 0 ∧ kindOk kind = true ∧ inR tag 0 9 = true := by
  unfold askedW at h
  split at h
  · rename_i h1
    cases ht : inR tag 0 9 with
    | false => rw [ht] at h; simp at h
    | true =>
      rw [ht] at h
      simp only [Bool.not_true, cond_false] at h
      split at h
      · rename_i h2
        cases hk : kindOk kind with
        | false => rw [hk] at h; simp at h
        | true => exact ⟨h1, h2, rfl, rfl⟩
      · rename_i h2; exact absurd h h2
  · rename_i h1; exact absurd h h1
theorem cacheF_len {c : List HitM} (h : cacheF c = 0) : c.length ≤ 12 := by
  unfold cacheF at h
  split at h
  · simp at h
  · omega
theorem kindOk_or {k : Int} (h : kindOk k = true) : k = 1 ∨ k = 2 ∨ k = 4 := by
  unfold kindOk at h
  simpa using h
theorem walkP_at {l : List PageM} {a kind : Int} (h : ¬ walkP l a kind < 0) : inR a 0 63 = true := by
  unfold walkP at h
  cases hb : inR a 0 63 with
  | true => rfl
  | false => rw [hb] at h; exact absurd (show (-1 : Int) < 0 by decide) h
theorem c_spec_l5Walk (c : List HitM) (hc : c.length ≤ 12) (tag : Int) (l : List PageM) (hl : l.length = 8) (a kind : Int) (hk : kindOk kind = true) : FnOK Try.prog 135 [.d (hits c), di tag, .d (Go.Proofs.Ytojaakpnpdnbhaa.L.pages l), di a, di kind] (.r (cacR (walkB c tag l a kind))) := by
  have c1 := c_spec_l1In a 0 63
  have c2 := c_spec_l5Find c tag (pgOf a) (by omega)
  have c3 := c_spec_l4Code kind (kindOk_or hk)
  have c4 := c_spec_l4Walk l hl a kind
  have c5 := c_spec_l5Fill c ⟨tag, pgOf a, (pageAt l a).to, (pageAt l a).kinds⟩ (by omega)
  have hf := find_lt (c := c) (tag := tag) (page := pgOf a)
  have hwp : ¬ walkP l a kind < 0 → 0 ≤ pgOf a ∧ pgOf a < (8 : Int) := fun h => by
    have h2 := inR_iff.1 (walkP_at h)
    obtain ⟨e1, e2, e3⟩ := div8 h2.1 h2.2
    show 0 ≤ IntKind.i64.wrap (Int.tdiv a 8) ∧ IntKind.i64.wrap (Int.tdiv a 8) < 8
    omega
  obtain ⟨v, hv⟩ : ∃ v, v = walkB c tag l a kind := ⟨_, rfl⟩
  rw [← hv]
  unfold walkB walkL at hv
  generalize walkP l a kind = w at *
  obtain ⟨k, hkk⟩ : ∃ k, k = findH c tag (pgOf a) := ⟨_, rfl⟩
  rw [← hkk] at hv hf c2
  obtain ⟨b, hb⟩ : ∃ b, b = inR a 0 63 := ⟨_, rfl⟩
  rw [← hb] at hv c1
  cases b with
  | true =>
    rw [cond_true] at hv
    by_cases h0 : k ≥ 0
    · rw [if_pos h0] at hv
      obtain ⟨e1, e2⟩ := hf h0
      have hlt : k < (c.length : Int) := by omega
      obtain ⟨z, hz⟩ : ∃ z, z = (andI (c.getD k.toNat hit0).kinds kind == 0) := ⟨_, rfl⟩
      rw [← hz] at hv
      refine fn_of lv135 Try.func135 rfl rfl (by kernel_rfl) rfl ?_
      refine .inl ⟨_, _, rfl, c1, rfl, ?_⟩
      refine bsplit_true ?_
      refine ask_intro (by decide) ?_
      refine .inl ⟨_, _, rfl, c2, rfl, ?_⟩
      refine bsplit_of_true (decide_eq_true h0) ?_
      refine ask_intro ⟨h0, hlt, rfl⟩ ?_
      cases z with
      | true =>
        have hv : v = ⟨kindC kind, 0, false, []⟩ := hv
        subst hv
        refine bsplit_of_true hz.symm ?_
        refine .inl ⟨_, _, rfl, c3, rfl, ?_⟩
        exact ⟨⟨rfl, rfl, rfl, ⟨rfl, rfl⟩, trivial⟩, rfl⟩
      | false =>
        have hv : v = ⟨0, placeW (c.getD k.toNat hit0).to a, true, c⟩ := hv
        subst hv
        refine bsplit_of_false hz.symm ?_
        refine ask_intro (by decide) ?_
        refine ask_intro ⟨by show (0 + c.length) * 32 ≤ 140737488355328; omega, by show 0 + c.length ≤ 9223372036854775807; omega, fun i hi => rfl⟩ ?_
        refine chk_intro (by kernel_rfl) ?_
        exact ⟨⟨rfl, rfl, rfl, ⟨rfl, rfl, Nat.zero_add _, fun j hj => ⟨rfl, rfl⟩⟩, trivial⟩, rfl⟩
    · rw [if_neg h0] at hv
      refine fn_of lv135 Try.func135 rfl rfl (by kernel_rfl) rfl ?_
      refine .inl ⟨_, _, rfl, c1, rfl, ?_⟩
      refine bsplit_true ?_
      refine ask_intro (by decide) ?_
      refine .inl ⟨_, _, rfl, c2, rfl, ?_⟩
      refine bsplit_of_false (decide_eq_false h0) ?_
      refine .inl ⟨_, _, rfl, c4, rfl, ?_⟩
      refine bsplit_intro (fun h => ?_) (fun h => ?_)
      · rw [if_pos (of_decide_eq_true h)] at hv
        subst hv
        refine .inl ⟨_, _, rfl, c3, rfl, ?_⟩
        exact ⟨⟨rfl, rfl, rfl, ⟨rfl, rfl⟩, trivial⟩, rfl⟩
      · have h := of_decide_eq_false h
        rw [if_neg h] at hv
        subst hv
        obtain ⟨q1, q2⟩ := hwp h
        refine ask_intro (by decide) ?_
        refine ask_intro ⟨q1, by show pgOf a < (l.length : Int); omega, rfl⟩ ?_
        refine ask_intro ⟨q1, by show pgOf a < (l.length : Int); omega, rfl⟩ ?_
        refine .inl ⟨_, _, rfl, c5, rfl, ?_⟩
        refine chk_intro (by kernel_rfl) ?_
        exact ⟨⟨rfl, rfl, rfl, ⟨rfl, rfl, rfl, fun j hj => ⟨rfl, rfl⟩⟩, trivial⟩, rfl⟩
  | false =>
    rw [cond_false] at hv
    refine fn_of lv135 Try.func135 rfl rfl (by kernel_rfl) rfl ?_
    refine .inl ⟨_, _, rfl, c1, rfl, ?_⟩
    refine bsplit_false ?_
    refine .inl ⟨_, _, rfl, c4, rfl, ?_⟩
    refine bsplit_intro (fun h => ?_) (fun h => ?_)
    · rw [if_pos (of_decide_eq_true h)] at hv
      subst hv
      refine .inl ⟨_, _, rfl, c3, rfl, ?_⟩
      exact ⟨⟨rfl, rfl, rfl, ⟨rfl, rfl⟩, trivial⟩, rfl⟩
    · have h := of_decide_eq_false h
      rw [if_neg h] at hv
      subst hv
      obtain ⟨q1, q2⟩ := hwp h
      refine ask_intro (by decide) ?_
      refine ask_intro ⟨q1, by show pgOf a < (l.length : Int); omega, rfl⟩ ?_
      refine ask_intro ⟨q1, by show pgOf a < (l.length : Int); omega, rfl⟩ ?_
      refine .inl ⟨_, _, rfl, c5, rfl, ?_⟩
      refine chk_intro (by kernel_rfl) ?_
      exact ⟨⟨rfl, rfl, rfl, ⟨rfl, rfl, rfl, fun j hj => ⟨rfl, rfl⟩⟩, trivial⟩, rfl⟩
end Go.Proofs.Ytojaakpnpdnbhaa.L

/- Walks with a cache: contracts. -/
set_option linter.unusedVariables false
set_option linter.unusedSimpArgs false
set_option maxRecDepth 100000
namespace Go.Proofs.Ytojaakpnpdnbhaa.L
open Go.RowKit
theorem c_spec_WalkCached (c : List HitM) (hc : c.length ≤ 1048576) (tag : Int) (l : List PageM) (hl : l.length ≤ 1048576) (a kind : Int) : FnOK Try.prog 59 [.d (hits c), di tag, .d (Go.Proofs.Ytojaakpnpdnbhaa.L.pages l), di a, di kind] (.r (cacR (walkC c tag l a kind))) := by
  have c1 := c_spec_l5Asked c hc tag l hl kind
  by_cases h : askedW c tag l kind = 0
  · obtain ⟨h1, h2, h3, h4⟩ := askedW_ok h
    have c2 := c_spec_l5Walk c (cacheF_len h1) tag l (pagesFault_ok h2).len a kind h3
    rw [show walkC c tag l a kind = walkB c tag l a kind from if_pos h]
    rw [h] at c1
    refine fn_of lv59 Try.func59 rfl rfl (by kernel_rfl) rfl ?_
    refine .inl ⟨_, _, rfl, c1, rfl, ?_⟩
    refine bsplit_false ?_
    refine .inl ⟨_, _, rfl, c2, rfl, ?_⟩
    exact ⟨⟨rfl, rfl, rfl, ⟨rfl, rfl, rfl, fun j hj => ⟨rfl, rfl⟩⟩, trivial⟩, rfl⟩
  · rw [show walkC c tag l a kind = ⟨askedW c tag l kind, 0, false, []⟩ from if_neg h]
    generalize askedW c tag l kind = e at *
    refine fn_of lv59 Try.func59 rfl rfl (by kernel_rfl) rfl ?_
    refine .inl ⟨_, _, rfl, c1, rfl, ?_⟩
    refine bsplit_of_true (by simpa using h) ?_
    exact ⟨⟨rfl, rfl, rfl, ⟨rfl, rfl⟩, trivial⟩, rfl⟩
set_option maxHeartbeats 1600000 in
theorem c_impl_WalkCached (c : List HitM) (hc : c.length ≤ 1048576) (tag : Int) (l : List PageM) (hl : l.length ≤ 1048576) (a kind : Int) : FnOK Try.prog 54 [.d (hits c), di tag, .d (Go.Proofs.Ytojaakpnpdnbhaa.L.pages l), di a, di kind] (.r (cacR (walkC c tag l a kind))) := by
  have c1 := c_impl_CacheFault c (by omega)
  have c2 := c_impl_within tag 0 9
  have c3 := c_impl_PagesFault l 24 hl
  have c5 := c_impl_kindCode kind
  by_cases he : cacheF c = 0
  rotate_left
  · rw [show walkC c tag l a kind = ⟨cacheF c, 0, false, []⟩ by unfold walkC askedW; rw [if_neg he, if_neg he]]
    have hz := firstNZ_two (cacheF c) (pagesFault l 24)
    rw [if_neg he] at hz
    generalize cacheF c = e at *
    generalize pagesFault l 24 = e2 at *
    have c4 := (c_impl_firstOf [e, e2] (by simp))
    rw [hz] at c4
    refine fn_of lv54 Try.func54 rfl rfl (by kernel_rfl) rfl ?_
    refine .inl ⟨_, _, rfl, c1, rfl, ?_⟩
    repeat' (first | refine bsplit_true ?_ | refine bsplit_false ?_)
    refine bsplit_of_false (by simpa using he) ?_
    repeat' (first | refine bsplit_true ?_ | refine bsplit_false ?_)
    refine .inl ⟨_, _, rfl, c3, rfl, ?_⟩
    repeat' (first | refine bsplit_true ?_ | refine bsplit_false ?_)
    refine .inl ⟨_, _, rfl, c4.weak ⟨LVLe.d (DLe.l rfl (fun i hi => litD_eq [e, e2] i hi)), trivial⟩, rfl, ?_⟩
    repeat' (first | refine bsplit_true ?_ | refine bsplit_false ?_)
    refine bsplit_of_false (by simpa using he) ?_
    repeat' (first | refine bsplit_true ?_ | refine bsplit_false ?_)
    refine bsplit_of_true (by simpa using he) ?_
    repeat' (first | refine bsplit_true ?_ | refine bsplit_false ?_)
    exact ⟨⟨rfl, rfl, rfl, ⟨rfl, rfl⟩, trivial⟩, rfl⟩
  rw [he] at c1
  cases ht : inR tag 0 9 with
  | false =>
    rw [show walkC c tag l a kind = ⟨3, 0, false, []⟩ by unfold walkC askedW; rw [if_pos he, ht]; rfl]
    rw [ht] at c2
    have hz : firstNZ [3, pagesFault l 24] = 3 := by rw [firstNZ_two]; rfl
    generalize pagesFault l 24 = e2 at *
    have c4 := (c_impl_firstOf [3, e2] (by simp))
    rw [hz] at c4
    refine fn_of lv54 Try.func54 rfl rfl (by kernel_rfl) rfl ?_
    refine .inl ⟨_, _, rfl, c1, rfl, ?_⟩
    repeat' (first | refine bsplit_true ?_ | refine bsplit_false ?_)
    refine .inl ⟨_, _, rfl, c2, rfl, ?_⟩
    repeat' (first | refine bsplit_true ?_ | refine bsplit_false ?_)
    refine .inl ⟨_, _, rfl, c3, rfl, ?_⟩
    repeat' (first | refine bsplit_true ?_ | refine bsplit_false ?_)
    refine .inl ⟨_, _, rfl, c4.weak ⟨LVLe.d (DLe.l rfl (fun i hi => litD_eq [3, e2] i hi)), trivial⟩, rfl, ?_⟩
    repeat' (first | refine bsplit_true ?_ | refine bsplit_false ?_)
    exact ⟨⟨rfl, rfl, rfl, ⟨rfl, rfl⟩, trivial⟩, rfl⟩
  | true =>
  rw [ht] at c2
  have c4 := (c_impl_firstOf [0, pagesFault l 24] (by simp))
  rw [show firstNZ [0, pagesFault l 24] = pagesFault l 24 by rw [firstNZ_two]; rfl] at c4
  by_cases hp : pagesFault l 24 = 0
  rotate_left
  · rw [show walkC c tag l a kind = ⟨pagesFault l 24, 0, false, []⟩ by unfold walkC askedW; rw [if_pos he, ht, if_neg hp]; exact if_neg hp]
    generalize pagesFault l 24 = e2 at *
    refine fn_of lv54 Try.func54 rfl rfl (by kernel_rfl) rfl ?_
    refine .inl ⟨_, _, rfl, c1, rfl, ?_⟩
    repeat' (first | refine bsplit_true ?_ | refine bsplit_false ?_)
    refine .inl ⟨_, _, rfl, c2, rfl, ?_⟩
    repeat' (first | refine bsplit_true ?_ | refine bsplit_false ?_)
    refine .inl ⟨_, _, rfl, c3, rfl, ?_⟩
    repeat' (first | refine bsplit_true ?_ | refine bsplit_false ?_)
    refine .inl ⟨_, _, rfl, c4.weak ⟨LVLe.d (DLe.l rfl (fun i hi => litD_eq [0, e2] i hi)), trivial⟩, rfl, ?_⟩
    repeat' (first | refine bsplit_true ?_ | refine bsplit_false ?_)
    refine bsplit_of_false (by simpa using hp) ?_
    repeat' (first | refine bsplit_true ?_ | refine bsplit_false ?_)
    refine bsplit_of_true (by simpa using hp) ?_
    repeat' (first | refine bsplit_true ?_ | refine bsplit_false ?_)
    exact ⟨⟨rfl, rfl, rfl, ⟨rfl, rfl⟩, trivial⟩, rfl⟩
  have hok := pagesFault_ok hp
  rw [hp] at c3 c4
  have hkc := kindC_ok kind
  cases hk : kindOk kind with
  | false =>
    rw [show walkC c tag l a kind = ⟨3, 0, false, []⟩ by unfold walkC askedW; rw [if_pos he, ht, if_pos hp, hk]; rfl]
    rw [hk] at hkc
    generalize kindC kind = z at *
    refine fn_of lv54 Try.func54 rfl rfl (by kernel_rfl) rfl ?_
    refine .inl ⟨_, _, rfl, c1, rfl, ?_⟩
    repeat' (first | refine bsplit_true ?_ | refine bsplit_false ?_)
    refine .inl ⟨_, _, rfl, c2, rfl, ?_⟩
    repeat' (first | refine bsplit_true ?_ | refine bsplit_false ?_)
    refine .inl ⟨_, _, rfl, c3, rfl, ?_⟩
    repeat' (first | refine bsplit_true ?_ | refine bsplit_false ?_)
    refine .inl ⟨_, _, rfl, c4.weak ⟨LVLe.d (DLe.l rfl (fun i hi => litD_eq [0, 0] i hi)), trivial⟩, rfl, ?_⟩
    repeat' (first | refine bsplit_true ?_ | refine bsplit_false ?_)
    refine .inl ⟨_, _, rfl, c5, rfl, ?_⟩
    repeat' (first | refine bsplit_true ?_ | refine bsplit_false ?_)
    refine bsplit_of_true hkc ?_
    repeat' (first | refine bsplit_true ?_ | refine bsplit_false ?_)
    exact ⟨⟨rfl, rfl, rfl, ⟨rfl, rfl⟩, trivial⟩, rfl⟩
  | true =>
  rw [hk] at hkc
  have hkn : (kindC kind != 0) = true := by simpa using hkc
  have hask : askedW c tag l kind = 0 := by unfold askedW; rw [if_pos he, ht, if_pos hp, hk]; rfl
  rw [show walkC c tag l a kind = walkB c tag l a kind from if_pos hask]
  have hcl := cacheF_len he
  have c6 := c_impl_hasPage a
  have c7 := c_impl_hitAt c tag (pgOf a) (by omega)
  have c8 := c_slices_Clone_Hit c (by omega)
  have c9 := c_impl_walk l 24 hok (by omega) a kind
  have c10 := c_impl_filled c ⟨tag, pgOf a, (pageAt l a).to, (pageAt l a).kinds⟩ hcl
  have hf := find_lt (c := c) (tag := tag) (page := pgOf a)
  have hlen := hok.len
  have hwp : ¬ walkP l a kind < 0 → 0 ≤ pgOf a ∧ pgOf a < (8 : Int) := fun h => by
    have h2 := inR_iff.1 (walkP_at h)
    obtain ⟨e1, e2, e3⟩ := div8 h2.1 h2.2
    show 0 ≤ IntKind.i64.wrap (Int.tdiv a 8) ∧ IntKind.i64.wrap (Int.tdiv a 8) < 8
    omega
  obtain ⟨v, hv⟩ : ∃ v, v = walkB c tag l a kind := ⟨_, rfl⟩
  rw [← hv]
  unfold walkB walkL at hv
  unfold walkI at c9
  generalize walkP l a kind = w at *
  generalize kindC kind = z at *
  obtain ⟨k, hkk⟩ : ∃ k, k = findH c tag (pgOf a) := ⟨_, rfl⟩
  rw [← hkk] at hv hf c7
  obtain ⟨b, hb⟩ : ∃ b, b = inR a 0 63 := ⟨_, rfl⟩
  rw [← hb] at hv c6
  by_cases h0 : b = true ∧ k ≥ 0
  · obtain ⟨rfl, h0⟩ := h0
    rw [cond_true, if_pos h0] at hv
    obtain ⟨e1, e2⟩ := hf h0
    have hlt : k < (c.length : Int) := by omega
    obtain ⟨y, hy⟩ : ∃ y, y = (andI (c.getD k.toNat hit0).kinds kind == 0) := ⟨_, rfl⟩
    rw [← hy] at hv
    refine fn_of lv54 Try.func54 rfl rfl (by kernel_rfl) rfl ?_
    refine .inl ⟨_, _, rfl, c1, rfl, ?_⟩
    repeat' (first | refine bsplit_true ?_ | refine bsplit_false ?_)
    refine .inl ⟨_, _, rfl, c2, rfl, ?_⟩
    repeat' (first | refine bsplit_true ?_ | refine bsplit_false ?_)
    refine .inl ⟨_, _, rfl, c3, rfl, ?_⟩
    repeat' (first | refine bsplit_true ?_ | refine bsplit_false ?_)
    refine .inl ⟨_, _, rfl, c4.weak ⟨LVLe.d (DLe.l rfl (fun i hi => litD_eq [0, 0] i hi)), trivial⟩, rfl, ?_⟩
    repeat' (first | refine bsplit_true ?_ | refine bsplit_false ?_)
    refine .inl ⟨_, _, rfl, c5, rfl, ?_⟩
    repeat' (first | refine bsplit_true ?_ | refine bsplit_false ?_)
    refine bsplit_of_false hkc ?_
    repeat' (first | refine bsplit_true ?_ | refine bsplit_false ?_)
    refine .inl ⟨_, _, rfl, c6, rfl, ?_⟩
    repeat' (first | refine bsplit_true ?_ | refine bsplit_false ?_)
    refine ask_intro (by decide) ?_
    refine .inl ⟨_, _, rfl, c7, rfl, ?_⟩
    repeat' (first | refine bsplit_true ?_ | refine bsplit_false ?_)
    refine bsplit_of_true (decide_eq_true h0) ?_
    repeat' (first | refine bsplit_true ?_ | refine bsplit_false ?_)
    refine ask_intro ⟨h0, hlt, rfl⟩ ?_
    cases y with
    | true =>
      have hv : v = ⟨z, 0, false, []⟩ := hv
      subst hv
      refine bsplit_of_true hy.symm ?_
      repeat' (first | refine bsplit_true ?_ | refine bsplit_false ?_)
      refine .inl ⟨_, _, rfl, c5, rfl, ?_⟩
      repeat' (first | refine bsplit_true ?_ | refine bsplit_false ?_)
      exact ⟨⟨rfl, rfl, rfl, ⟨rfl, rfl⟩, trivial⟩, rfl⟩
    | false =>
      have hv : v = ⟨0, placeW (c.getD k.toNat hit0).to a, true, c⟩ := hv
      subst hv
      refine bsplit_of_false hy.symm ?_
      repeat' (first | refine bsplit_true ?_ | refine bsplit_false ?_)
      refine ask_intro (by decide) ?_
      refine .inl ⟨_, _, rfl, c8, rfl, ?_⟩
      repeat' (first | refine bsplit_true ?_ | refine bsplit_false ?_)
      refine chk_intro (by kernel_rfl) ?_
      exact ⟨⟨rfl, rfl, rfl, ⟨rfl, rfl, rfl, fun j hj => ⟨rfl, rfl⟩⟩, trivial⟩, rfl⟩
  have hv : v = (if w < 0 then (⟨z, 0, false, []⟩ : CacM) else ⟨0, w, false, fillC c ⟨tag, pgOf a, (pageAt l a).to, (pageAt l a).kinds⟩⟩) := by
    rw [hv]
    cases b with
    | false => rfl
    | true => rw [cond_true, if_neg (fun h => h0 ⟨rfl, h⟩)]
  have tl : ∀ K : Prop, True := fun _ => trivial
  by_cases hw : w < 0
  · rw [if_pos hw] at hv c9
    subst hv
    cases b with
    | false =>
      refine fn_of lv54 Try.func54 rfl rfl (by kernel_rfl) rfl ?_
      refine .inl ⟨_, _, rfl, c1, rfl, ?_⟩
      repeat' (first | refine bsplit_true ?_ | refine bsplit_false ?_)
      refine .inl ⟨_, _, rfl, c2, rfl, ?_⟩
      repeat' (first | refine bsplit_true ?_ | refine bsplit_false ?_)
      refine .inl ⟨_, _, rfl, c3, rfl, ?_⟩
      repeat' (first | refine bsplit_true ?_ | refine bsplit_false ?_)
      refine .inl ⟨_, _, rfl, c4.weak ⟨LVLe.d (DLe.l rfl (fun i hi => litD_eq [0, 0] i hi)), trivial⟩, rfl, ?_⟩
      repeat' (first | refine bsplit_true ?_ | refine bsplit_false ?_)
      refine .inl ⟨_, _, rfl, c5, rfl, ?_⟩
      repeat' (first | refine bsplit_true ?_ | refine bsplit_false ?_)
      refine bsplit_of_false hkc ?_
      repeat' (first | refine bsplit_true ?_ | refine bsplit_false ?_)
      refine .inl ⟨_, _, rfl, c6, rfl, ?_⟩
      repeat' (first | refine bsplit_true ?_ | refine bsplit_false ?_)
      refine .inl ⟨_, _, rfl, c9, rfl, ?_⟩
      repeat' (first | refine bsplit_true ?_ | refine bsplit_false ?_)
      refine bsplit_of_true hkn ?_
      repeat' (first | refine bsplit_true ?_ | refine bsplit_false ?_)
      exact ⟨⟨rfl, rfl, rfl, ⟨rfl, rfl⟩, trivial⟩, rfl⟩
    | true =>
      have h1 : ¬ k ≥ 0 := fun h => h0 ⟨rfl, h⟩
      refine fn_of lv54 Try.func54 rfl rfl (by kernel_rfl) rfl ?_
      refine .inl ⟨_, _, rfl, c1, rfl, ?_⟩
      repeat' (first | refine bsplit_true ?_ | refine bsplit_false ?_)
      refine .inl ⟨_, _, rfl, c2, rfl, ?_⟩
      repeat' (first | refine bsplit_true ?_ | refine bsplit_false ?_)
      refine .inl ⟨_, _, rfl, c3, rfl, ?_⟩
      repeat' (first | refine bsplit_true ?_ | refine bsplit_false ?_)
      refine .inl ⟨_, _, rfl, c4.weak ⟨LVLe.d (DLe.l rfl (fun i hi => litD_eq [0, 0] i hi)), trivial⟩, rfl, ?_⟩
      repeat' (first | refine bsplit_true ?_ | refine bsplit_false ?_)
      refine .inl ⟨_, _, rfl, c5, rfl, ?_⟩
      repeat' (first | refine bsplit_true ?_ | refine bsplit_false ?_)
      refine bsplit_of_false hkc ?_
      repeat' (first | refine bsplit_true ?_ | refine bsplit_false ?_)
      refine .inl ⟨_, _, rfl, c6, rfl, ?_⟩
      repeat' (first | refine bsplit_true ?_ | refine bsplit_false ?_)
      refine ask_intro (by decide) ?_
      refine .inl ⟨_, _, rfl, c7, rfl, ?_⟩
      repeat' (first | refine bsplit_true ?_ | refine bsplit_false ?_)
      refine bsplit_of_false (decide_eq_false h1) ?_
      repeat' (first | refine bsplit_true ?_ | refine bsplit_false ?_)
      refine .inl ⟨_, _, rfl, c9, rfl, ?_⟩
      repeat' (first | refine bsplit_true ?_ | refine bsplit_false ?_)
      refine bsplit_of_true hkn ?_
      repeat' (first | refine bsplit_true ?_ | refine bsplit_false ?_)
      exact ⟨⟨rfl, rfl, rfl, ⟨rfl, rfl⟩, trivial⟩, rfl⟩
  · rw [if_neg hw] at hv c9
    obtain ⟨q1, q2⟩ := hwp hw
    subst hv
    cases b with
    | false =>
      refine fn_of lv54 Try.func54 rfl rfl (by kernel_rfl) rfl ?_
      refine .inl ⟨_, _, rfl, c1, rfl, ?_⟩
      repeat' (first | refine bsplit_true ?_ | refine bsplit_false ?_)
      refine .inl ⟨_, _, rfl, c2, rfl, ?_⟩
      repeat' (first | refine bsplit_true ?_ | refine bsplit_false ?_)
      refine .inl ⟨_, _, rfl, c3, rfl, ?_⟩
      repeat' (first | refine bsplit_true ?_ | refine bsplit_false ?_)
      refine .inl ⟨_, _, rfl, c4.weak ⟨LVLe.d (DLe.l rfl (fun i hi => litD_eq [0, 0] i hi)), trivial⟩, rfl, ?_⟩
      repeat' (first | refine bsplit_true ?_ | refine bsplit_false ?_)
      refine .inl ⟨_, _, rfl, c5, rfl, ?_⟩
      repeat' (first | refine bsplit_true ?_ | refine bsplit_false ?_)
      refine bsplit_of_false hkc ?_
      repeat' (first | refine bsplit_true ?_ | refine bsplit_false ?_)
      refine .inl ⟨_, _, rfl, c6, rfl, ?_⟩
      repeat' (first | refine bsplit_true ?_ | refine bsplit_false ?_)
      refine .inl ⟨_, _, rfl, c9, rfl, ?_⟩
      repeat' (first | refine bsplit_true ?_ | refine bsplit_false ?_)
      refine ask_intro (by decide) ?_
      refine ask_intro ⟨q1, by show pgOf a < (l.length : Int); omega, rfl⟩ ?_
      refine ask_intro (by decide) ?_
      refine .inl ⟨_, _, rfl, c10, rfl, ?_⟩
      repeat' (first | refine bsplit_true ?_ | refine bsplit_false ?_)
      refine chk_intro (by kernel_rfl) ?_
      exact ⟨⟨rfl, rfl, rfl, ⟨rfl, rfl, rfl, fun j hj => ⟨rfl, rfl⟩⟩, trivial⟩, rfl⟩
    | true =>
      have h1 : ¬ k ≥ 0 := fun h => h0 ⟨rfl, h⟩
      refine fn_of lv54 Try.func54 rfl rfl (by kernel_rfl) rfl ?_
      refine .inl ⟨_, _, rfl, c1, rfl, ?_⟩
      repeat' (first | refine bsplit_true ?_ | refine bsplit_false ?_)
      refine .inl ⟨_, _, rfl, c2, rfl, ?_⟩
      repeat' (first | refine bsplit_true ?_ | refine bsplit_false ?_)
      refine .inl ⟨_, _, rfl, c3, rfl, ?_⟩
      repeat' (first | refine bsplit_true ?_ | refine bsplit_false ?_)
      refine .inl ⟨_, _, rfl, c4.weak ⟨LVLe.d (DLe.l rfl (fun i hi => litD_eq [0, 0] i hi)), trivial⟩, rfl, ?_⟩
      repeat' (first | refine bsplit_true ?_ | refine bsplit_false ?_)
      refine .inl ⟨_, _, rfl, c5, rfl, ?_⟩
      repeat' (first | refine bsplit_true ?_ | refine bsplit_false ?_)
      refine bsplit_of_false hkc ?_
      repeat' (first | refine bsplit_true ?_ | refine bsplit_false ?_)
      refine .inl ⟨_, _, rfl, c6, rfl, ?_⟩
      repeat' (first | refine bsplit_true ?_ | refine bsplit_false ?_)
      refine ask_intro (by decide) ?_
      refine .inl ⟨_, _, rfl, c7, rfl, ?_⟩
      repeat' (first | refine bsplit_true ?_ | refine bsplit_false ?_)
      refine bsplit_of_false (decide_eq_false h1) ?_
      repeat' (first | refine bsplit_true ?_ | refine bsplit_false ?_)
      refine .inl ⟨_, _, rfl, c9, rfl, ?_⟩
      repeat' (first | refine bsplit_true ?_ | refine bsplit_false ?_)
      refine ask_intro (by decide) ?_
      refine ask_intro ⟨q1, by show pgOf a < (l.length : Int); omega, rfl⟩ ?_
      refine ask_intro (by decide) ?_
      refine .inl ⟨_, _, rfl, c10, rfl, ?_⟩
      repeat' (first | refine bsplit_true ?_ | refine bsplit_false ?_)
      refine chk_intro (by kernel_rfl) ?_
      exact ⟨⟨rfl, rfl, rfl, ⟨rfl, rfl, rfl, fun j hj => ⟨rfl, rfl⟩⟩, trivial⟩, rfl⟩
end Go.Proofs.Ytojaakpnpdnbhaa.L

/- Caches: flushing and fitting: contracts. -/
set_option linter.unusedVariables false
set_option linter.unusedSimpArgs false
set_option maxRecDepth 100000
namespace Go.Proofs.Ytojaakpnpdnbhaa.L
open Go.RowKit
theorem c_slices_IndexFunc_Hit1 (g : Nat) (p : HitM → Bool) (a : Int) (hg : ∀ x, FnOK Try.prog g [hitLV x, .dptr [dI a]] (rb (p x))) (l : List HitM) (hl : l.length ≤ 4611686018427387904) : FnOK Try.prog 185 [.d (hits l), .fn g [.dptr [dI a]]] (ri (idxG p l 0)) := by
  refine fn_of lv185 Try.func185 rfl rfl (by kernel_rfl) rfl ?_
  refine ⟨{ i : Nat // i ≤ l.length ∧ idxG p l i = idxG p l 0 }, fun i => ⟨frL [(0, .d (hits l)), (1, .fn g [.dptr [dI a]]), (7, di l.length), (8, di i.1)], hpL [], 0, 0⟩, fun i => l.length - i.1, ⟨0, by omega, rfl⟩,
    le_of [] rfl rfl rfl rfl trivial (tellFr_d rfl (DLe.refl _) (tellFr_fn rfl ⟨⟨DLe.refl _, trivial⟩, trivial⟩ (tellFr_v rfl rfl (tellFr_v rfl rfl trivial)))), ?_⟩
  rintro ⟨i, hi, hall⟩
  refine bsplit_intro (fun h => ?_) (fun h => ?_)
  · have h : i < l.length := by simp at h; exact h
    refine ask_intro ⟨by omega, by simp; omega, rfl⟩ ?_
    refine .inl ⟨_, _, rfl, hg (l.getD i hit0), rfl, ?_⟩
    refine bsplit_intro (fun h2 => ?_) (fun h2 => ?_)
    · exact ⟨⟨congrArg (Value.int .i64) ((idxG_hit hit0 h h2).symm.trans hall), trivial⟩, rfl⟩
    · exact ⟨⟨i + 1, by omega, (idxG_miss hit0 h h2).symm.trans hall⟩, le_of [] rfl rfl rfl rfl trivial (tellFr_d rfl (DLe.refl _) (tellFr_fn rfl ⟨⟨DLe.refl _, trivial⟩, trivial⟩ (tellFr_v rfl rfl (tellFr_v rfl (congrArg (Value.int .i64) (wrap1 h hl)) trivial)))), by show l.length - (i + 1) < l.length - i; omega⟩
  · simp at h
    exact ⟨⟨congrArg (Value.int .i64) ((idxG_end h).symm.trans hall), trivial⟩, rfl⟩
theorem c_slices_IndexFunc_Hit2 (g : Nat) (p : HitM → Bool) (a : Int) (m : List PageM) (l : List HitM) (hg : ∀ i, i < l.length → FnOK Try.prog g [hitLV (l.getD i hit0), .dptr [dI a], .dptr [Go.Proofs.Ytojaakpnpdnbhaa.L.pages m]] (rb (p (l.getD i hit0)))) (hl : l.length ≤ 4611686018427387904) : FnOK Try.prog 185 [.d (hits l), .fn g [.dptr [dI a], .dptr [Go.Proofs.Ytojaakpnpdnbhaa.L.pages m]]] (ri (idxG p l 0)) := by
  refine fn_of lv185 Try.func185 rfl rfl (by kernel_rfl) rfl ?_
  refine ⟨{ i : Nat // i ≤ l.length ∧ idxG p l i = idxG p l 0 }, fun i => ⟨frL [(0, .d (hits l)), (1, .fn g [.dptr [dI a], .dptr [Go.Proofs.Ytojaakpnpdnbhaa.L.pages m]]), (7, di l.length), (8, di i.1)], hpL [], 0, 0⟩, fun i => l.length - i.1, ⟨0, by omega, rfl⟩,
    le_of [] rfl rfl rfl rfl trivial (tellFr_d rfl (DLe.refl _) (tellFr_fn rfl ⟨⟨DLe.refl _, trivial⟩, ⟨DLe.refl _, trivial⟩, trivial⟩ (tellFr_v rfl rfl (tellFr_v rfl rfl trivial)))), ?_⟩
  rintro ⟨i, hi, hall⟩
  refine bsplit_intro (fun h => ?_) (fun h => ?_)
  · have h : i < l.length := by simp at h; exact h
    refine ask_intro ⟨by omega, by simp; omega, rfl⟩ ?_
    refine .inl ⟨_, _, rfl, hg i h, rfl, ?_⟩
    refine bsplit_intro (fun h2 => ?_) (fun h2 => ?_)
    · exact ⟨⟨congrArg (Value.int .i64) ((idxG_hit hit0 h h2).symm.trans hall), trivial⟩, rfl⟩
    · exact ⟨⟨i + 1, by omega, (idxG_miss hit0 h h2).symm.trans hall⟩, le_of [] rfl rfl rfl rfl trivial (tellFr_d rfl (DLe.refl _) (tellFr_fn rfl ⟨⟨DLe.refl _, trivial⟩, ⟨DLe.refl _, trivial⟩, trivial⟩ (tellFr_v rfl rfl (tellFr_v rfl (congrArg (Value.int .i64) (wrap1 h hl)) trivial)))), by show l.length - (i + 1) < l.length - i; omega⟩
  · simp at h
    exact ⟨⟨congrArg (Value.int .i64) ((idxG_end h).symm.trans hall), trivial⟩, rfl⟩
theorem filt_none {l : List HitM} {p : HitM → Bool} (h : idxG p l 0 = -1) : l.filter (fun x => !p x) = l := by
  rw [List.filter_eq_self]
  intro x hx
  unfold idxG at h
  rw [List.drop_zero] at h
  cases ha : l.any p with
  | true => rw [ha] at h; simp at h
  | false =>
    cases hp : p x with
    | false => rfl
    | true => exact absurd (List.any_eq_true.2 ⟨x, hx, hp⟩) (by simp [ha])
theorem filt_first {l : List HitM} {p : HitM → Bool} (h : idxG p l 0 ≥ 0) : (l.take ((idxG p l 0).toNat + 1)).filter (fun x => !p x) = l.take (idxG p l 0).toNat := by
  have h1 := (idx_lt h).2
  have e : (idxG p l 0).toNat = l.findIdx p := by
    unfold idxG at *
    rw [List.drop_zero] at *
    cases ha : l.any p with
    | false => rw [ha] at h; simp at h
    | true => simp
  rw [e] at h1 ⊢
  rw [List.take_succ_eq_append_getElem h1, List.filter_append]
  have h2 : p l[l.findIdx p] = true := List.findIdx_getElem
  have h3 : (l.take (l.findIdx p)).filter (fun x => !p x) = l.take (l.findIdx p) := by
    rw [List.filter_eq_self]
    intro x hx
    obtain ⟨i, hi, rfl⟩ := List.getElem_of_mem hx
    have hi2 : i < l.findIdx p := by simp at hi; omega
    have := List.not_of_lt_findIdx hi2
    simpa using this
  rw [h3]
  simp [h2]
structure FiltI (l : List HitM) (p : HitM → Bool) (m : List HitM) (i j : Nat) : Prop where
  len : m.length = l.length
  le : j ≤ l.length
  fil : m.take i = (l.take j).filter (fun x => !p x)
  il : i < j
  tl : ∀ k, j ≤ k → m.getD k hit0 = l.getD k hit0
theorem FiltI.first {l : List HitM} {p : HitM → Bool} (h : idxG p l 0 ≥ 0) : FiltI l p l (idxG p l 0).toNat ((idxG p l 0).toNat + 1) := ⟨rfl, (idx_lt h).2, (filt_first h).symm, by omega, fun _ _ => rfl⟩
theorem FiltI.skip {l : List HitM} {p : HitM → Bool} {m : List HitM} {i j : Nat} (h : FiltI l p m i j) (hj : j < l.length) (hp : p (l.getD j hit0) = true) : FiltI l p m i (j + 1) := by
  refine ⟨h.len, hj, ?_, by have := h.il; omega, fun k hk => h.tl k (by omega)⟩
  rw [h.fil, List.take_succ_eq_append_getElem hj, List.filter_append]
  rw [getD_at hit0 hj] at hp
  simp [hp]
theorem FiltI.keep {l : List HitM} {p : HitM → Bool} {m : List HitM} {i j : Nat} (h : FiltI l p m i j) (hj : j < l.length) (hp : p (l.getD j hit0) = false) : FiltI l p (m.set i (m.getD j hit0)) (i + 1) (j + 1) := by
  have hil := h.il
  have hlen := h.len
  refine ⟨by rw [List.length_set]; exact h.len, hj, ?_, by omega, fun k hk => ?_⟩
  · rw [List.take_succ_eq_append_getElem hj, List.filter_append, ← h.fil]
    have e : (m.set i (m.getD j hit0)).take (i + 1) = m.take i ++ [m.getD j hit0] := by
      rw [List.take_succ_eq_append_getElem (by rw [List.length_set]; omega)]
      simp [List.take_set_of_le]
    rw [e, h.tl j (Nat.le_refl _)]
    rw [getD_at hit0 hj] at hp ⊢
    simp [hp]
  · rw [← h.tl k (by omega)]
    simp only [List.getD]
    rw [List.getElem?_set_ne (by omega)]
theorem FiltI.last {l : List HitM} {p : HitM → Bool} {m : List HitM} {i j : Nat} (h : FiltI l p m i j) (hj : ¬ j < l.length) : m.take i = l.filter (fun x => !p x) := by
  rw [h.fil, List.take_of_length_le (by omega)]
end Go.Proofs.Ytojaakpnpdnbhaa.L

/- Caches: flushing: contracts. -/
set_option linter.unusedVariables false
set_option linter.unusedSimpArgs false
set_option maxRecDepth 100000
namespace Go.Proofs.Ytojaakpnpdnbhaa.L
open Go.RowKit
theorem set_hit {l : List HitM} {i : Nat} {v : HitM} (hi : i < l.length) (j : Nat) : (if j = i then splice (hitsF l j) 0 (hitD v) else hitsF l j) = hitsF (l.set i v) j := by
  show _ = hitD ((l.set i _).getD j hit0)
  by_cases e : j = i
  · subst e
    rw [if_pos rfl]
    simp [List.getD, hi, splice, List.getElem?_eq_getElem hi]
  · rw [if_neg e]
    show hitD (l.getD j hit0) = _
    simp [List.getD, List.getElem?_set_ne (Ne.symm e)]
theorem idx_neg {l : List HitM} {p : HitM → Bool} (h : ¬ idxG p l 0 ≥ 0) : idxG p l 0 = -1 := by
  revert h
  unfold idxG
  cases (l.drop 0).any p with
  | true => intro h; simp at h
  | false => intro _; rfl
set_option maxHeartbeats 1600000 in
theorem c_slices_DeleteFunc_Hit (g : Nat) (p : HitM → Bool) (a : Int) (hg : ∀ x, FnOK Try.prog g [hitLV x, .dptr [dI a]] (rb (p x))) (l : List HitM) (hl : l.length ≤ 1048576) :
    MutOK Try.prog 128 [.row 0, .fn g [.ptr 1 0]] 2 [(0, rowHit l), (1, .box 2 [di a])] (.d (hits (l.filter fun x => !p x))) 2 [] := by
  have c1 := c_slices_IndexFunc_Hit1 g p a hg l (by omega)
  by_cases h0 : idxG p l 0 ≥ 0
  rotate_left
  · have h1 := idx_neg h0
    rw [filt_none h1]
    rw [h1] at c1
    refine mut_fn_of lv128 Try.func128 rfl rfl (by kernel_rfl) rfl [] ?_
    refine .inl ⟨_, _, rfl, c1, rfl, ?_⟩
    refine bsplit_true ?_
    exact chk_intro (by kernel_rfl) ⟨tellV_frz rfl rfl rfl (DLe.refl _), tellHp_nil⟩
  have hfst := FiltI.first h0
  obtain ⟨i0, hi0⟩ : ∃ i : Nat, i = (idxG p l 0).toNat := ⟨_, rfl⟩
  have hi1 : idxG p l 0 = (i0 : Int) := by omega
  rw [← hi0] at hfst
  rw [hi1] at c1
  have hlt := hfst.le
  have hfl : (l.filter fun x => !p x).length ≤ l.length := List.length_filter_le _ _
  refine mut_fn_of lv128 Try.func128 rfl rfl (by kernel_rfl) rfl [] ?_
  refine .inl ⟨_, _, rfl, c1, rfl, ?_⟩
  refine bsplit_of_false (show ((i0 : Int) == -1) = false by rw [beq_eq_false_iff_ne]; omega) ?_
  refine ⟨{ x : List HitM × Nat × Nat // FiltI l p x.1 x.2.1 x.2.2 }, fun x => ⟨frL [(0, .row 0), (1, .fn g [.ptr 1 0]), (5, di x.1.2.1), (6, di x.1.2.2)], hpL [(0, .row 156 4 l.length (hitsF x.1.1)), (1, .box 2 [di a])], 2, 2⟩, fun x => l.length - x.1.2.2, ⟨(l, i0, i0 + 1), hfst⟩,
    le_of [] rfl rfl rfl rfl (tellHp_row rfl rfl rfl (fun i hi => rfl) (tellHp_box rfl rfl ⟨rfl, trivial⟩ tellHp_nil)) (tellFr_row rfl rfl (tellFr_fn rfl ⟨⟨rfl, rfl⟩, trivial⟩ (tellFr_v rfl rfl (tellFr_v rfl (congrArg (Value.int .i64) (show IntKind.i64.wrap ((i0 : Int) + 1) = ((i0 + 1 : Nat) : Int) from wrap_i64 _ (by omega) (by omega))) trivial)))), ?_⟩
  rintro ⟨⟨m, i, j⟩, hF⟩
  have hF : FiltI l p m i j := hF
  have hil := hF.il
  have hjl := hF.le
  have hml := hF.len
  by_cases hj : j < l.length
  · have hwj := congrArg (Value.int .i64) (wrap1 hj (by omega))
    have hwi : IntKind.i64.wrap ((i : Int) + 1) = ((i + 1 : Nat) : Int) := wrap_i64 _ (by omega) (by omega)
    have hgj := hg (m.getD j hit0)
    have htl := hF.tl j (Nat.le_refl _)
    obtain ⟨b, hb⟩ : ∃ b, b = p (m.getD j hit0) := ⟨_, rfl⟩
    rw [← hb] at hgj
    refine bsplit_of_true (decide_eq_true (show (j : Int) < (l.length : Int) by omega)) ?_
    refine ask_intro ⟨by omega, by show (j : Int) < (l.length : Int); omega⟩ ?_
    refine ask_intro (by show j < l.length; exact hj) ?_
    refine .inl ⟨_, _, rfl, hgj, rfl, ?_⟩
    cases b with
    | true =>
      refine bsplit_false ?_
      exact ⟨⟨(m, i, j + 1), hF.skip hj (by rw [← htl]; exact hb.symm)⟩, le_of [] rfl rfl rfl rfl (tellHp_row rfl rfl rfl (fun i hi => rfl) (tellHp_box rfl rfl ⟨rfl, trivial⟩ tellHp_nil)) (tellFr_row rfl rfl (tellFr_fn rfl ⟨⟨rfl, rfl⟩, trivial⟩ (tellFr_v rfl rfl (tellFr_v rfl hwj trivial)))), by show l.length - (j + 1) < l.length - j; omega⟩
    | false =>
      refine bsplit_true ?_
      refine ask_intro ⟨by omega, by show (i : Int) < (l.length : Int); omega⟩ ?_
      refine ask_intro (by show i < l.length; omega) ?_
      exact ⟨⟨(m.set i (m.getD j hit0), i + 1, j + 1), hF.keep hj (by rw [← htl]; exact hb.symm)⟩, le_of [] rfl rfl rfl rfl (tellHp_row rfl rfl rfl (fun q hq => set_hit (l := m) (i := i) (v := m.getD j hit0) (by omega) q) (tellHp_box rfl rfl ⟨rfl, trivial⟩ tellHp_nil)) (tellFr_row rfl rfl (tellFr_fn rfl ⟨⟨rfl, rfl⟩, trivial⟩ (tellFr_v rfl (congrArg (Value.int .i64) hwi) (tellFr_v rfl hwj trivial)))), by show l.length - (j + 1) < l.length - j; omega⟩
  · have hlast := hF.last hj
    refine bsplit_of_false (decide_eq_false (show ¬ (j : Int) < (l.length : Int) by omega)) ?_
    refine ask_intro ⟨by omega, by show (i : Int) ≤ (l.length : Int); omega, by show ((0 : Nat) : Int) + (l.length : Int) ≤ (l.length : Int); omega, .inr rfl⟩ ?_
    refine ask_intro trivial ?_
    have hlf : i = (l.filter fun x => !p x).length := by rw [← hlast, List.length_take]; omega
    refine ask_intro ⟨by omega, by show (0 : Int) ≤ (i : Int); omega, by show (i : Int) ≤ (l.length : Int); omega, .inr (fun q hq => ?_)⟩ ?_
    · unfold putF; split <;> rfl
    refine chk_intro (by kernel_rfl) ⟨DLe.l ?_ (fun q hq => ?_), tellHp_nil⟩
    · show ((i : Int) - 0).toNat = _
      omega
    · have hq : q < ((i : Int) - 0).toNat := hq
      have hq : q < i := by omega
      show putF (0 + (i : Int).toNat) ((0 + ((l.length - 0 : Nat) : Int).toNat) - (0 + (i : Int).toNat)) (fun x => [.v (.int .i64 0), .v (.int .i64 0), .v (.int .i64 0), .v (.int .i64 0)]) (hitsF m) q = hitsF (l.filter fun x => !p x) q
      unfold putF
      rw [if_neg (by omega), ← hlast]
      simp only [hitsF, List.getD, List.getElem?_take, if_pos hq]
theorem c_impl_FlushCache_1 (x : HitM) (tag : Int) : FnOK Try.prog 129 [hitLV x, .dptr [dI tag]] (rb (x.tag == tag)) := by
  refine fn_of lv129 Try.func129 rfl rfl (by kernel_rfl) rfl ?_
  exact ⟨⟨rfl, trivial⟩, rfl⟩
def flushM (c : List HitM) (tag : Int) : CacM := if cacheF c = 0 then (bif inR tag 0 9 then ⟨0, 0, false, c.filter fun x => !(x.tag == tag)⟩ else ⟨3, 0, false, []⟩) else ⟨cacheF c, 0, false, []⟩
abbrev cacSh (p : CacM) : RV1 := .agg [.v (.int .i64 p.code), .v (.int .i64 p.val), .v (.bool p.hit), .sh (hits p.cac)]
theorem c_impl_FlushCache (c : List HitM) (hc : c.length ≤ 1048576) (tag : Int) : FnOK Try.prog 55 [.d (hits c), di tag] (.r (cacSh (flushM c tag))) := by
  have c1 := c_impl_CacheFault c (by omega)
  have c2 := c_impl_within tag 0 9
  have c3 := c_slices_Clone_Hit c (by omega)
  have c4 := c_slices_DeleteFunc_Hit 129 (fun x => x.tag == tag) tag (fun x => c_impl_FlushCache_1 x tag) c hc
  obtain ⟨v, hv⟩ : ∃ v, v = flushM c tag := ⟨_, rfl⟩
  rw [← hv]
  unfold flushM at hv
  generalize cacheF c = e at *
  generalize inR tag 0 9 = b at *
  refine fn_of lv55 Try.func55 rfl rfl (by kernel_rfl) rfl ?_
  refine .inl ⟨_, _, rfl, c1, rfl, ?_⟩
  refine bsplit_intro (fun h => ?_) (fun h => ?_)
  · rw [if_neg (by simpa using h)] at hv
    subst hv
    exact ⟨⟨rfl, rfl, rfl, DLe.nil _, trivial⟩, rfl⟩
  rw [if_pos (by simpa using h)] at hv
  refine .inl ⟨_, _, rfl, c2, rfl, ?_⟩
  refine bsplit_intro (fun h1 => ?_) (fun h1 => ?_)
  · rw [show b = false by simpa using h1] at hv
    have hv : v = ⟨3, 0, false, []⟩ := hv
    subst hv
    exact ⟨⟨rfl, rfl, rfl, DLe.nil _, trivial⟩, rfl⟩
  rw [show b = true by simpa using h1] at hv
  have hv : v = ⟨0, 0, false, c.filter fun x => !(x.tag == tag)⟩ := hv
  subst hv
  refine .inl ⟨_, _, rfl, c3, rfl, ?_⟩
  refine .inr ⟨rfl, use_mut ⟨_, _, _, _, _, _, rfl, rfl, c4, rfl, ?_⟩⟩
  exact ⟨⟨rfl, rfl, rfl, DLe.refl _, trivial⟩, rfl⟩
theorem pageEq (p q : PageM) : ([p.to, p.kinds] == [q.to, q.kinds]) = decide (p = q) := by
  obtain ⟨a, b⟩ := p
  obtain ⟨c, d⟩ := q
  by_cases h1 : a = c <;> by_cases h2 : b = d <;> simp [h1, h2]
/-- a hit that the pages do not bear out -/
def badH (tag : Int) (l : List PageM) (h : HitM) : Bool := h.tag == tag && !(decide (l.getD h.page.toNat ⟨0, 0⟩ = ⟨h.to, h.kinds⟩))
theorem c_impl_CacheFits_1 (x : HitM) (tag : Int) (l : List PageM) (hx : 0 ≤ x.page ∧ x.page < (l.length : Int)) : FnOK Try.prog 132 [hitLV x, .dptr [dI tag], .dptr [Go.Proofs.Ytojaakpnpdnbhaa.L.pages l]] (rb (badH tag l x)) := by
  generalize hv : badH tag l x = v
  unfold badH at hv
  refine fn_of lv132 Try.func132 rfl rfl (by kernel_rfl) rfl ?_
  refine bsplit_intro (fun h => ?_) (fun h => ?_)
  · have h : (x.tag == tag) = true := h
    rw [h] at hv
    repeat' (first | refine bsplit_true ?_ | refine bsplit_false ?_)
    refine ask_intro ⟨hx.1, hx.2, rfl⟩ ?_
    repeat' (first | refine bsplit_true ?_ | refine bsplit_false ?_)
    refine chk_intro (by kernel_rfl) ?_
    refine ⟨⟨congrArg Value.bool (?_ : _ = v), trivial⟩, rfl⟩
    rw [← hv, Bool.true_and, ← pageEq]
  · have h : (x.tag == tag) = false := h
    rw [h] at hv
    have hv : false = v := hv
    repeat' (first | refine bsplit_true ?_ | refine bsplit_false ?_)
    refine chk_intro (by kernel_rfl) ?_
    exact ⟨⟨congrArg Value.bool hv, trivial⟩, rfl⟩
theorem cacheGo_in : ∀ (bs ah : List HitM), cacheGo ah bs = 0 → ∀ h ∈ bs, hitB h = true
  | [], _, _, h, hm => by simp at hm
  | x :: xs, ah, h, y, hm => by
    unfold cacheGo at h
    split at h
    · rename_i h1
      split at h
      · simp at h
      · rcases List.mem_cons.1 hm with rfl | hm
        · exact h1
        · exact cacheGo_in xs _ h y hm
    · simp at h
theorem cacheF_in {c : List HitM} (h : cacheF c = 0) (i : Nat) (hi : i < c.length) : 0 ≤ (c.getD i hit0).page ∧ (c.getD i hit0).page < 8 := by
  unfold cacheF at h
  split at h
  · simp at h
  have := cacheGo_in c [] h (c.getD i hit0) (by rw [getD_at hit0 hi]; exact List.getElem_mem hi)
  unfold hitB at this
  simp only [Bool.and_eq_true, inR_iff] at this
  omega
theorem c_slices_ContainsFunc_Hit2 (g : Nat) (p : HitM → Bool) (a : Int) (m : List PageM) (l : List HitM) (hg : ∀ i, i < l.length → FnOK Try.prog g [hitLV (l.getD i hit0), .dptr [dI a], .dptr [Go.Proofs.Ytojaakpnpdnbhaa.L.pages m]] (rb (p (l.getD i hit0)))) (hl : l.length ≤ 4611686018427387904) : FnOK Try.prog 131 [.d (hits l), .fn g [.dptr [dI a], .dptr [Go.Proofs.Ytojaakpnpdnbhaa.L.pages m]]] (rb (l.any p)) := by
  have c1 := c_slices_IndexFunc_Hit2 g p a m l hg hl
  refine fn_of lv131 Try.func131 rfl rfl (by kernel_rfl) rfl ?_
  refine .inl ⟨_, _, rfl, c1, rfl, ?_⟩
  exact ⟨⟨congrArg Value.bool (idxG_any l p), trivial⟩, rfl⟩
def fitsM (c : List HitM) (tag : Int) (l : List PageM) : Bool := if cacheF c = 0 ∧ pagesFault l 24 = 0 then !(c.any (badH tag l)) else false
theorem c_impl_CacheFits (c : List HitM) (hc : c.length ≤ 1048576) (tag : Int) (l : List PageM) (hl : l.length ≤ 1048576) : FnOK Try.prog 57 [.d (hits c), di tag, .d (Go.Proofs.Ytojaakpnpdnbhaa.L.pages l)] (rb (fitsM c tag l)) := by
  have c1 := c_impl_CacheFault c (by omega)
  have c2 := c_impl_PagesFault l 24 hl
  by_cases h1 : cacheF c = 0
  rotate_left
  · rw [show fitsM c tag l = false from if_neg (fun h => h1 h.1)]
    generalize cacheF c = e at *
    refine fn_of lv57 Try.func57 rfl rfl (by kernel_rfl) rfl ?_
    refine .inl ⟨_, _, rfl, c1, rfl, ?_⟩
    refine bsplit_of_true (by simpa using h1) ?_
    repeat' (first | refine bsplit_true ?_ | refine bsplit_false ?_)
    exact ⟨⟨rfl, trivial⟩, rfl⟩
  by_cases h2 : pagesFault l 24 = 0
  rotate_left
  · rw [show fitsM c tag l = false from if_neg (fun h => h2 h.2)]
    rw [h1] at c1
    generalize pagesFault l 24 = e2 at *
    refine fn_of lv57 Try.func57 rfl rfl (by kernel_rfl) rfl ?_
    refine .inl ⟨_, _, rfl, c1, rfl, ?_⟩
    repeat' (first | refine bsplit_true ?_ | refine bsplit_false ?_)
    refine .inl ⟨_, _, rfl, c2, rfl, ?_⟩
    repeat' (first | refine bsplit_true ?_ | refine bsplit_false ?_)
    refine bsplit_of_true (by simpa using h2) ?_
    repeat' (first | refine bsplit_true ?_ | refine bsplit_false ?_)
    exact ⟨⟨rfl, trivial⟩, rfl⟩
  rw [show fitsM c tag l = !(c.any (badH tag l)) from if_pos ⟨h1, h2⟩]
  have hlen := (pagesFault_ok h2).len
  have c3 := c_slices_ContainsFunc_Hit2 132 (badH tag l) tag l c (fun i hi => c_impl_CacheFits_1 _ tag l (by have := cacheF_in h1 i hi; omega)) (by omega)
  rw [h1] at c1
  rw [h2] at c2
  refine fn_of lv57 Try.func57 rfl rfl (by kernel_rfl) rfl ?_
  refine .inl ⟨_, _, rfl, c1, rfl, ?_⟩
  repeat' (first | refine bsplit_true ?_ | refine bsplit_false ?_)
  refine .inl ⟨_, _, rfl, c2, rfl, ?_⟩
  repeat' (first | refine bsplit_true ?_ | refine bsplit_false ?_)
  refine .inl ⟨_, _, rfl, c3, rfl, ?_⟩
  exact ⟨⟨rfl, trivial⟩, rfl⟩
theorem c_spec_CacheFits (c : List HitM) (hc : c.length ≤ 1048576) (tag : Int) (l : List PageM) (hl : l.length ≤ 1048576) : FnOK Try.prog 58 [.d (hits c), di tag, .d (Go.Proofs.Ytojaakpnpdnbhaa.L.pages l)] (rb (fitsM c tag l)) := by
  have c1 := c_spec_CacheFault c (by omega)
  have c2 := c_spec_PagesFault l 24 hl
  by_cases h1 : cacheF c = 0
  rotate_left
  · rw [show fitsM c tag l = false from if_neg (fun h => h1 h.1)]
    generalize cacheF c = e at *
    refine fn_of lv58 Try.func58 rfl rfl (by kernel_rfl) rfl ?_
    refine .inl ⟨_, _, rfl, c1, rfl, ?_⟩
    refine bsplit_of_true (by simpa using h1) ?_
    repeat' (first | refine bsplit_true ?_ | refine bsplit_false ?_)
    exact ⟨⟨rfl, trivial⟩, rfl⟩
  by_cases h2 : pagesFault l 24 = 0
  rotate_left
  · rw [show fitsM c tag l = false from if_neg (fun h => h2 h.2)]
    rw [h1] at c1
    generalize pagesFault l 24 = e2 at *
    refine fn_of lv58 Try.func58 rfl rfl (by kernel_rfl) rfl ?_
    refine .inl ⟨_, _, rfl, c1, rfl, ?_⟩
    repeat' (first | refine bsplit_true ?_ | refine bsplit_false ?_)
    refine .inl ⟨_, _, rfl, c2, rfl, ?_⟩
    repeat' (first | refine bsplit_true ?_ | refine bsplit_false ?_)
    refine bsplit_of_true (by simpa using h2) ?_
    repeat' (first | refine bsplit_true ?_ | refine bsplit_false ?_)
    exact ⟨⟨rfl, trivial⟩, rfl⟩
  obtain ⟨v, hv⟩ : ∃ v, v = c.any (badH tag l) := ⟨_, rfl⟩
  rw [show fitsM c tag l = !v by rw [hv]; exact if_pos ⟨h1, h2⟩]
  have hlen := (pagesFault_ok h2).len
  have hin := fun i hi => cacheF_in h1 i hi
  rw [h1] at c1
  rw [h2] at c2
  refine fn_of lv58 Try.func58 rfl rfl (by kernel_rfl) rfl ?_
  refine .inl ⟨_, _, rfl, c1, rfl, ?_⟩
  repeat' (first | refine bsplit_true ?_ | refine bsplit_false ?_)
  refine .inl ⟨_, _, rfl, c2, rfl, ?_⟩
  repeat' (first | refine bsplit_true ?_ | refine bsplit_false ?_)
  refine ⟨{ i : Nat // i ≤ c.length ∧ v = (c.drop i).any (badH tag l) }, fun i => ⟨frL [(0, .d (hits c)), (1, di tag), (2, .d (Go.Proofs.Ytojaakpnpdnbhaa.L.pages l)), (7, di i.1)], hpL [], 0, 0⟩, fun i => c.length - i.1, ⟨0, by omega, hv⟩,
    le_of [] rfl rfl rfl rfl trivial (tellFr_d rfl (DLe.refl _) (tellFr_v rfl rfl (tellFr_d rfl (DLe.refl _) (tellFr_v rfl rfl trivial)))), ?_⟩
  rintro ⟨i, hi, hall⟩
  by_cases hi2 : i < c.length
  rotate_left
  · rw [List.drop_eq_nil_of_le (by omega)] at hall
    have hall : v = false := hall
    subst hall
    refine bsplit_of_false (decide_eq_false (show ¬ (i : Int) < (c.length : Int) by omega)) ?_
    exact ⟨⟨rfl, trivial⟩, rfl⟩
  rw [drop_anyG hit0 c (badH tag l) i hi2] at hall
  have hp := hin i hi2
  have hwr := congrArg (Value.int .i64) (wrap1 hi2 (by omega))
  have hb : badH tag l (c.getD i hit0) = ((c.getD i hit0).tag == tag && !(decide (l.getD (c.getD i hit0).page.toNat ⟨0, 0⟩ = ⟨(c.getD i hit0).to, (c.getD i hit0).kinds⟩))) := rfl
  rw [← pageEq] at hb
  generalize badH tag l (c.getD i hit0) = b at *
  refine bsplit_of_true (decide_eq_true (show (i : Int) < (c.length : Int) by omega)) ?_
  refine ask_intro ⟨by omega, by show (i : Int) < (c.length : Int); omega, rfl⟩ ?_
  refine bsplit_intro (fun h => ?_) (fun h => ?_)
  · rw [show ((c.getD i hit0).tag == tag) = true from h, Bool.true_and] at hb
    repeat' (first | refine bsplit_true ?_ | refine bsplit_false ?_)
    refine ask_intro ⟨hp.1, by show (c.getD i hit0).page < (l.length : Int); omega, rfl⟩ ?_
    repeat' (first | refine bsplit_true ?_ | refine bsplit_false ?_)
    refine chk_intro (by kernel_rfl) ?_
    refine bsplit_intro (fun h5 => ?_) (fun h5 => ?_)
    · rw [hb.trans h5] at hall
      have hall : v = true := hall
      subst hall
      exact ⟨⟨rfl, trivial⟩, rfl⟩
    · rw [hb.trans h5, Bool.false_or] at hall
      exact ⟨⟨i + 1, by omega, hall⟩, le_of [] rfl rfl rfl rfl trivial (tellFr_d rfl (DLe.refl _) (tellFr_v rfl rfl (tellFr_d rfl (DLe.refl _) (tellFr_v rfl hwr trivial)))), by show c.length - (i + 1) < c.length - i; omega⟩
  · rw [show ((c.getD i hit0).tag == tag) = false from h] at hb
    have hb : b = false := hb
    rw [hb, Bool.false_or] at hall
    repeat' (first | refine bsplit_true ?_ | refine bsplit_false ?_)
    refine chk_intro (by kernel_rfl) ?_
    repeat' (first | refine bsplit_true ?_ | refine bsplit_false ?_)
    exact ⟨⟨i + 1, by omega, hall⟩, le_of [] rfl rfl rfl rfl trivial (tellFr_d rfl (DLe.refl _) (tellFr_v rfl rfl (tellFr_d rfl (DLe.refl _) (tellFr_v rfl hwr trivial)))), by show c.length - (i + 1) < c.length - i; omega⟩
theorem c_impl_WalkPages (l : List PageM) (hl : l.length ≤ 1048576) (a kind : Int) : FnOK Try.prog 49 [.d (Go.Proofs.Ytojaakpnpdnbhaa.L.pages l), di a, di kind] (.r (irR (if pagesFault l 24 = 0 then (bif kindOk kind then walkI l a kind else (3, 0)) else (pagesFault l 24, 0)))) := by
  have c1 := c_impl_PagesFault l 24 hl
  have c2 := c_impl_kindCode kind
  have hk := kindC_ok kind
  obtain ⟨v, hv⟩ : ∃ v, v = (if pagesFault l 24 = 0 then (bif kindOk kind then walkI l a kind else (3, 0)) else (pagesFault l 24, 0)) := ⟨_, rfl⟩
  rw [← hv]
  by_cases h : pagesFault l 24 = 0
  rotate_left
  · rw [if_neg h] at hv
    subst hv
    generalize pagesFault l 24 = e at *
    refine fn_of lv49 Try.func49 rfl rfl (by kernel_rfl) rfl ?_
    refine .inl ⟨_, _, rfl, c1, rfl, ?_⟩
    refine bsplit_of_true (by simpa using h) ?_
    exact ⟨⟨rfl, rfl, trivial⟩, rfl⟩
  rw [if_pos h] at hv
  have c3 := c_impl_walk l 24 (pagesFault_ok h) (by omega) a kind
  rw [h] at c1
  cases hkk : kindOk kind with
  | false =>
    rw [hkk] at hv hk
    have hv : v = (3, 0) := hv
    subst hv
    refine fn_of lv49 Try.func49 rfl rfl (by kernel_rfl) rfl ?_
    refine .inl ⟨_, _, rfl, c1, rfl, ?_⟩
    repeat' (first | refine bsplit_true ?_ | refine bsplit_false ?_)
    refine .inl ⟨_, _, rfl, c2, rfl, ?_⟩
    refine bsplit_of_true hk ?_
    exact ⟨⟨rfl, rfl, trivial⟩, rfl⟩
  | true =>
    rw [hkk] at hv hk
    have hv : v = walkI l a kind := hv
    subst hv
    refine fn_of lv49 Try.func49 rfl rfl (by kernel_rfl) rfl ?_
    refine .inl ⟨_, _, rfl, c1, rfl, ?_⟩
    repeat' (first | refine bsplit_true ?_ | refine bsplit_false ?_)
    refine .inl ⟨_, _, rfl, c2, rfl, ?_⟩
    refine bsplit_of_false hk ?_
    refine .inl ⟨_, _, rfl, c3, rfl, ?_⟩
    exact ⟨⟨rfl, rfl, trivial⟩, rfl⟩
end Go.Proofs.Ytojaakpnpdnbhaa.L

/- Caches: the plain law. -/
set_option linter.unusedVariables false
set_option linter.unusedSimpArgs false
set_option maxRecDepth 100000
namespace Go.Proofs.Ytojaakpnpdnbhaa.L
open Go.RowKit
theorem findH_any {c : List HitM} {tag page : Int} : findH c tag page ≥ 0 ↔ c.any (atB tag page) = true := by
  unfold findH
  rw [← idxG_any]
  simp
structure OkC (c : List HitM) : Prop where
  len : c.length ≤ 12
  hit : ∀ h ∈ c, hitB h = true
  two : c.Pairwise (fun x y => atB y.tag y.page x = false)
theorem cacheGo_iff : ∀ (bs ah : List HitM), ah.Pairwise (fun x y => atB y.tag y.page x = false) → (cacheGo ah bs = 0 ↔ (∀ h ∈ bs, hitB h = true) ∧ (ah ++ bs).Pairwise (fun x y => atB y.tag y.page x = false))
  | [], ah, h => ⟨fun _ => ⟨fun x hx => absurd hx (by simp), by rw [List.append_nil]; exact h⟩, fun _ => rfl⟩
  | x :: xs, ah, h => by
    unfold cacheGo
    by_cases h1 : hitB x = true
    · rw [if_pos h1]
      by_cases h2 : findH ah x.tag x.page ≥ 0
      · rw [if_pos h2]
        constructor
        · intro h; simp at h
        · rintro ⟨_, h3⟩
          rw [List.pairwise_append] at h3
          obtain ⟨y, hy, hy2⟩ := List.any_eq_true.1 (findH_any.1 h2)
          have := h3.2.2 y hy x (by simp)
          rw [hy2] at this
          exact absurd this (by simp)
      · rw [if_neg h2]
        have hn : ah.any (atB x.tag x.page) = false := by simpa using fun h => h2 (findH_any.2 h)
        have h3 : (ah ++ [x]).Pairwise (fun x y => atB y.tag y.page x = false) := by
          rw [List.pairwise_append]
          refine ⟨h, by simp, fun y hy z hz => ?_⟩
          obtain rfl : z = x := by simpa using hz
          cases hb : atB z.tag z.page y with
          | false => rfl
          | true => exact absurd (List.any_eq_true.2 ⟨y, hy, hb⟩) (by simp [hn])
        rw [cacheGo_iff xs (ah ++ [x]) h3]
        simp only [List.mem_cons, forall_eq_or_imp, h1, true_and, List.append_assoc, List.cons_append, List.nil_append]
    · rw [if_neg h1]
      constructor
      · intro h; simp at h
      · rintro ⟨h3, _⟩; exact absurd (h3 x (by simp)) h1
theorem cacheF_iff {c : List HitM} : cacheF c = 0 ↔ OkC c := by
  unfold cacheF
  by_cases h : c.length > 12
  · rw [if_pos h]
    exact ⟨fun h => by simp at h, fun h2 => by have := h2.len; omega⟩
  · rw [if_neg h, cacheGo_iff c [] List.Pairwise.nil]
    exact ⟨fun ⟨a, b⟩ => ⟨by omega, a, by simpa using b⟩, fun h => ⟨h.hit, by simpa using h.two⟩⟩
theorem fits_iff {c : List HitM} {tag : Int} {l : List PageM} : fitsM c tag l = true ↔ OkC c ∧ pagesFault l 24 = 0 ∧ ∀ h ∈ c, badH tag l h = false := by
  rw [← cacheF_iff]
  unfold fitsM
  by_cases h : cacheF c = 0 ∧ pagesFault l 24 = 0
  · rw [if_pos h]
    constructor
    · intro h2
      refine ⟨h.1, h.2, fun x hx => ?_⟩
      cases hb : badH tag l x with
      | false => rfl
      | true => rw [List.any_eq_true.2 ⟨x, hx, hb⟩] at h2; exact absurd h2 (by simp)
    · rintro ⟨_, _, h2⟩
      cases ha : c.any (badH tag l) with
      | false => rfl
      | true =>
        obtain ⟨x, hx, hb⟩ := List.any_eq_true.1 ha
        rw [h2 x hx] at hb
        exact absurd hb (by simp)
  · rw [if_neg h]
    exact ⟨fun h2 => by simp at h2, fun h2 => absurd ⟨h2.1, h2.2.1⟩ h⟩
theorem OkC.filter {c : List HitM} (h : OkC c) (p : HitM → Bool) : OkC (c.filter p) := ⟨Nat.le_trans (List.length_filter_le _ _) h.len, fun x hx => h.hit x (List.mem_filter.1 hx).1, h.two.filter _⟩
/-- a flushed cache fits -/
theorem law_flush (c : List HitM) (tag : Int) (l : List PageM) (h : (flushM c tag).code = 0) (hp : pagesFault l 24 = 0) : fitsM (flushM c tag).cac tag l = true := by
  unfold flushM at *
  by_cases h1 : cacheF c = 0
  · rw [if_pos h1] at *
    cases ht : inR tag 0 9 with
    | false => rw [ht] at h; exact absurd (show (3 : Int) = 0 from h) (by decide)
    | true =>
      rw [cond_true, fits_iff]
      refine ⟨(cacheF_iff.1 h1).filter _, hp, fun x hx => ?_⟩
      have := (List.mem_filter.1 hx).2
      unfold badH
      have e : (x.tag == tag) = false := by simpa using this
      rw [e]; rfl
  · rw [if_neg h1] at h
    exact absurd h h1
/-- what is found in a cache that fits is as the pages say -/
theorem fits_at {c : List HitM} {tag : Int} {l : List PageM} {page : Int} (hf : fitsM c tag l = true) (h : findH c tag page ≥ 0) :
    (c.getD (findH c tag page).toNat hit0).to = (l.getD page.toNat ⟨0, 0⟩).to ∧ (c.getD (findH c tag page).toNat hit0).kinds = (l.getD page.toNat ⟨0, 0⟩).kinds ∧ hitB (c.getD (findH c tag page).toNat hit0) = true := by
  obtain ⟨h1, h2, h3⟩ := fits_iff.1 hf
  have hlt := (find_lt h).2
  have hmem : c.getD (findH c tag page).toNat hit0 ∈ c := by rw [getD_at hit0 hlt]; exact List.getElem_mem hlt
  have hat : atB tag page (c.getD (findH c tag page).toNat hit0) = true := by
    have e : (findH c tag page).toNat = c.findIdx (atB tag page) := by
      have ha := findH_any.1 h
      unfold findH idxG
      rw [List.drop_zero, ha]
      simp
    rw [getD_at hit0 hlt]
    have : ∀ (k : Nat) (hk : k < c.length), k = c.findIdx (atB tag page) → atB tag page c[k] = true := by
      rintro k hk rfl
      exact List.findIdx_getElem
    exact this _ hlt e
  have hb := h3 _ hmem
  have hh := h1.hit _ hmem
  generalize c.getD (findH c tag page).toNat hit0 = x at *
  unfold atB at hat
  simp only [Bool.and_eq_true, beq_iff_eq] at hat
  obtain ⟨e1, e2⟩ := hat
  unfold badH at hb
  rw [e1, e2] at hb
  simp only [beq_self_eq_true, Bool.true_and, Bool.not_eq_eq_eq_not, Bool.not_false, decide_eq_true_eq] at hb
  rw [hb]
  exact ⟨rfl, rfl, hh⟩
theorem walkP_hit {l : List PageM} {a kind : Int} (h : inR a 0 63 = true) : walkP l a kind = bif decide ((pageAt l a).to < 0) || (andI (pageAt l a).kinds kind == 0) then -1 else IntKind.i64.wrap (IntKind.i64.wrap ((pageAt l a).to * 8) + Int.tmod a 8) := by
  unfold walkP
  rw [h]; rfl
theorem walkP_neg {l : List PageM} {a kind : Int} (h : inR a 0 63 = true) (hl : PgsOK l 24) : walkP l a kind < 0 ↔ (pageAt l a).to < 0 ∨ andI (pageAt l a).kinds kind = 0 := by
  rw [walkP_hit h]
  by_cases h1 : (pageAt l a).to < 0
  · rw [decide_eq_true h1]; simp [h1]
  · have hg := walk_get hl (by omega) h h1
    rw [decide_eq_false h1]
    by_cases h2 : andI (pageAt l a).kinds kind = 0
    · rw [h2]; simp
    · rw [show (andI (pageAt l a).kinds kind == 0) = false by simpa using h2]
      simp only [Bool.or_self, cond_false, h1, h2, or_self, iff_false]
      rw [hg.1]; omega
theorem less_sub (c : List HitM) (h : HitM) : (lessC c h).Sublist c := by
  unfold lessC
  split
  · exact List.eraseIdx_sublist _ _
  · split
    · exact List.eraseIdx_sublist _ _
    · exact List.Sublist.refl _
/-- a new hit put in -/
theorem fill_ok {c : List HitM} {h : HitM} (hc : OkC c) (hh : hitB h = true) (hn : ¬ findH c h.tag h.page ≥ 0) : OkC (fillC c h) := by
  have hs := less_sub c h
  have hl := hc.len
  refine ⟨?_, fun x hx => ?_, ?_⟩
  · unfold fillC
    rw [List.length_append]
    unfold lessC
    rw [if_neg hn]
    split
    · rw [List.length_eraseIdx, if_pos (by omega)]; simp; omega
    · simp; omega
  · rcases List.mem_append.1 (show x ∈ lessC c h ++ [h] from hx) with hx | hx
    · exact hc.hit x (hs.subset hx)
    · obtain rfl : x = h := by simpa using hx
      exact hh
  · show (lessC c h ++ [h]).Pairwise _
    rw [List.pairwise_append]
    refine ⟨hc.two.sublist hs, by simp, fun x hx y hy => ?_⟩
    obtain rfl : y = h := by simpa using hy
    cases hb : atB y.tag y.page x with
    | false => rfl
    | true => exact absurd (findH_any.2 (List.any_eq_true.2 ⟨x, hs.subset hx, hb⟩)) hn
theorem law_walk (c : List HitM) (tag : Int) (l : List PageM) (a kind : Int) (hf : fitsM c tag l = true) :
    ((walkC c tag l a kind).code ≠ 0 → (walkC c tag l a kind).code = (if pagesFault l 24 = 0 then (bif kindOk kind then walkI l a kind else (3, 0)) else (pagesFault l 24, 0)).1 ∨ tag < 0 ∨ tag > 9) ∧
    ((walkC c tag l a kind).code = 0 → (if pagesFault l 24 = 0 then (bif kindOk kind then walkI l a kind else (3, 0)) else (pagesFault l 24, 0)) = (0, (walkC c tag l a kind).val) ∧ fitsM (walkC c tag l a kind).cac tag l = true ∧ (walkC (walkC c tag l a kind).cac tag l a kind).hit = true ∧ (walkC (walkC c tag l a kind).cac tag l a kind).val = (walkC c tag l a kind).val) := by
  obtain ⟨h1, h2, h3⟩ := fits_iff.1 hf
  have h0 := cacheF_iff.2 h1
  have hok := pagesFault_ok h2
  rw [if_pos h2]
  cases ht : inR tag 0 9 with
  | false =>
    have : walkC c tag l a kind = ⟨3, 0, false, []⟩ := by unfold walkC askedW; rw [if_pos h0, ht]; rfl
    rw [this]
    refine ⟨fun _ => .inr ?_, fun h => absurd h (by decide)⟩
    have : ¬ inR tag 0 9 = true := by rw [ht]; simp
    rw [inR_iff] at this
    omega
  | true =>
  cases hk : kindOk kind with
  | false =>
    have : walkC c tag l a kind = ⟨3, 0, false, []⟩ := by unfold walkC askedW; rw [if_pos h0, ht, if_pos h2, hk]; rfl
    rw [this]
    exact ⟨fun _ => .inl rfl, fun h => absurd h (by decide)⟩
  | true =>
  rw [cond_true]
  have hask : ∀ c', cacheF c' = 0 → askedW c' tag l kind = 0 := fun c' h => by unfold askedW; rw [if_pos h, ht, if_pos h2, hk]; rfl
  have hwc : ∀ c', cacheF c' = 0 → walkC c' tag l a kind = walkB c' tag l a kind := fun c' h => if_pos (hask c' h)
  have hkn : kindC kind ≠ 0 := by have := kindC_ok kind; rw [hk] at this; simpa using this
  rw [hwc c h0]
  unfold walkI
  cases ha : inR a 0 63 with
  | false =>
    have hwn : walkP l a kind < 0 := by unfold walkP; rw [ha]; exact (by decide : (-1 : Int) < 0)
    have : walkB c tag l a kind = ⟨kindC kind, 0, false, []⟩ := by unfold walkB walkL; rw [ha, cond_false, if_pos hwn]
    rw [this, if_pos hwn]
    exact ⟨fun _ => .inl rfl, fun h => absurd h hkn⟩
  | true =>
  have hneg := walkP_neg (kind := kind) ha hok
  have hpa : pageAt l a = l.getD (pgOf a).toNat ⟨0, 0⟩ := rfl
  -- what a cache that fits and has the page answers
  have hhit : ∀ c', fitsM c' tag l = true → findH c' tag (pgOf a) ≥ 0 → walkB c' tag l a kind = if walkP l a kind < 0 then ⟨kindC kind, 0, false, []⟩ else ⟨0, walkP l a kind, true, c'⟩ := fun c' hf' hfi => by
    obtain ⟨e1, e2, e3⟩ := fits_at hf' hfi
    rw [← hpa] at e1 e2
    unfold walkB
    rw [ha, cond_true, if_pos hfi, e1, e2]
    have h4 : ¬ (pageAt l a).to < 0 := by
      rw [← e1]
      unfold hitB at e3
      simp only [Bool.and_eq_true, inR_iff] at e3
      omega
    by_cases h5 : andI (pageAt l a).kinds kind = 0
    · rw [h5, if_pos (hneg.2 (.inr h5))]; rfl
    · rw [show (andI (pageAt l a).kinds kind == 0) = false by simpa using h5, if_neg (fun h => (hneg.1 h).elim h4 h5), walkP_hit ha, decide_eq_false h4, show (andI (pageAt l a).kinds kind == 0) = false by simpa using h5]
      rfl
  by_cases hfi : findH c tag (pgOf a) ≥ 0
  · rw [hhit c hf hfi]
    by_cases hw : walkP l a kind < 0
    · rw [if_pos hw]
      exact ⟨fun _ => .inl (by rw [if_pos hw]), fun h => absurd h hkn⟩
    · rw [if_neg hw]
      refine ⟨fun h => absurd rfl h, fun _ => ⟨by rw [if_neg hw], hf, ?_, ?_⟩⟩
      · show (walkC c tag l a kind).hit = true
        rw [hwc c h0, hhit c hf hfi, if_neg hw]
      · show (walkC c tag l a kind).val = _
        rw [hwc c h0, hhit c hf hfi, if_neg hw]
  · have hb : walkB c tag l a kind = walkL c tag l a kind := by unfold walkB; rw [ha, cond_true, if_neg hfi]
    rw [hb]
    unfold walkL
    by_cases hw : walkP l a kind < 0
    · rw [if_pos hw]
      exact ⟨fun _ => .inl (by rw [if_pos hw]), fun h => absurd h hkn⟩
    · rw [if_neg hw]
      obtain ⟨n1, n2⟩ := not_or.1 (fun h => hw (hneg.2 h))
      have hin := inR_iff.1 ha
      obtain ⟨d1, d2, d3⟩ := div8 hin.1 hin.2
      have hg := hok.at_ (pageAt l a) (by
        rw [hpa, getD_at _ (by rw [hok.len]; show (IntKind.i64.wrap (Int.tdiv a 8)).toNat < 8; omega)]
        exact List.getElem_mem _)
      have hk0 : (pageAt l a).kinds ≠ 0 := by
        intro h
        rw [h] at n2
        apply n2
        show IntKind.i64.wrap ((BitVec.ofInt 64 0 &&& BitVec.ofInt 64 kind).toNat : Int) = 0
        simp
        rfl
      have hhb : hitB ⟨tag, pgOf a, (pageAt l a).to, (pageAt l a).kinds⟩ = true := by
        unfold hitB
        simp only [Bool.and_eq_true]
        refine ⟨ht, inR_iff.2 ?_, inR_iff.2 ?_, inR_iff.2 ?_⟩
        · show 0 ≤ IntKind.i64.wrap (Int.tdiv a 8) ∧ IntKind.i64.wrap (Int.tdiv a 8) ≤ 7
          omega
        · show 0 ≤ (pageAt l a).to ∧ (pageAt l a).to ≤ 23
          omega
        · show 1 ≤ (pageAt l a).kinds ∧ (pageAt l a).kinds ≤ 7
          omega
      have hfo := fill_ok h1 hhb hfi
      have hff : fitsM (fillC c ⟨tag, pgOf a, (pageAt l a).to, (pageAt l a).kinds⟩) tag l = true := by
        rw [fits_iff]
        refine ⟨hfo, h2, fun x hx => ?_⟩
        rcases List.mem_append.1 (show x ∈ lessC c _ ++ [_] from hx) with hx | hx
        · exact h3 x ((less_sub c _).subset hx)
        · obtain rfl : x = ⟨tag, pgOf a, (pageAt l a).to, (pageAt l a).kinds⟩ := by simpa using hx
          unfold badH
          rw [← hpa]
          simp
      have hfi2 : findH (fillC c ⟨tag, pgOf a, (pageAt l a).to, (pageAt l a).kinds⟩) tag (pgOf a) ≥ 0 := by
        rw [findH_any]
        unfold fillC
        rw [List.any_append]
        simp [atB]
      refine ⟨fun h => absurd rfl h, fun _ => ⟨by rw [if_neg hw], hff, ?_, ?_⟩⟩
      · show (walkC (fillC c ⟨tag, pgOf a, (pageAt l a).to, (pageAt l a).kinds⟩) tag l a kind).hit = true
        rw [hwc _ (cacheF_iff.2 hfo), hhit _ hff hfi2, if_neg hw]
      · show (walkC (fillC c ⟨tag, pgOf a, (pageAt l a).to, (pageAt l a).kinds⟩) tag l a kind).val = _
        rw [hwc _ (cacheF_iff.2 hfo), hhit _ hff hfi2, if_neg hw]
end Go.Proofs.Ytojaakpnpdnbhaa.L

/- Choices out of a literal of so many numbers: contracts. -/
set_option linter.unusedVariables false
set_option maxRecDepth 100000
namespace Go.Proofs.Ytojaakpnpdnbhaa.L
open Go.RowKit
theorem pick2 (c : List Int) (hc : okCode c) (p : Int) (a b : Int) (hp : 0 ≤ p) (hp2 : p ≤ 549755813888) : MutOK Try.prog 120 [.ptr 0 0, .row 1] 2 [(0, srcBox c p), (1, .row 2 1 2 (fun i => ([[D.v (.int .i64 a)], [D.v (.int .i64 b)]] : List (List D)).getD i []))] (di (pk c p [a, b])) 2 [(0, srcBox c (p + 1)), (1, rowE [a, b])] := c_spec_l1Pick c hc p [a, b] hp hp2 (by simp)
theorem pick3 (c : List Int) (hc : okCode c) (p : Int) (a b d : Int) (hp : 0 ≤ p) (hp2 : p ≤ 549755813888) : MutOK Try.prog 120 [.ptr 0 0, .row 1] 2 [(0, srcBox c p), (1, .row 2 1 3 (fun i => ([[D.v (.int .i64 a)], [D.v (.int .i64 b)], [D.v (.int .i64 d)]] : List (List D)).getD i []))] (di (pk c p [a, b, d])) 2 [(0, srcBox c (p + 1)), (1, rowE [a, b, d])] := c_spec_l1Pick c hc p [a, b, d] hp hp2 (by simp)
theorem pick4 (c : List Int) (hc : okCode c) (p : Int) (a b d e : Int) (hp : 0 ≤ p) (hp2 : p ≤ 549755813888) : MutOK Try.prog 120 [.ptr 0 0, .row 1] 2 [(0, srcBox c p), (1, .row 2 1 4 (fun i => ([[D.v (.int .i64 a)], [D.v (.int .i64 b)], [D.v (.int .i64 d)], [D.v (.int .i64 e)]] : List (List D)).getD i []))] (di (pk c p [a, b, d, e])) 2 [(0, srcBox c (p + 1)), (1, rowE [a, b, d, e])] := c_spec_l1Pick c hc p [a, b, d, e] hp hp2 (by simp)
theorem pick5 (c : List Int) (hc : okCode c) (p : Int) (a b d e f : Int) (hp : 0 ≤ p) (hp2 : p ≤ 549755813888) : MutOK Try.prog 120 [.ptr 0 0, .row 1] 2 [(0, srcBox c p), (1, .row 2 1 5 (fun i => ([[D.v (.int .i64 a)], [D.v (.int .i64 b)], [D.v (.int .i64 d)], [D.v (.int .i64 e)], [D.v (.int .i64 f)]] : List (List D)).getD i []))] (di (pk c p [a, b, d, e, f])) 2 [(0, srcBox c (p + 1)), (1, rowE [a, b, d, e, f])] := c_spec_l1Pick c hc p [a, b, d, e, f] hp hp2 (by simp)
theorem pick6 (c : List Int) (hc : okCode c) (p : Int) (a b d e f g : Int) (hp : 0 ≤ p) (hp2 : p ≤ 549755813888) : MutOK Try.prog 120 [.ptr 0 0, .row 1] 2 [(0, srcBox c p), (1, .row 2 1 6 (fun i => ([[D.v (.int .i64 a)], [D.v (.int .i64 b)], [D.v (.int .i64 d)], [D.v (.int .i64 e)], [D.v (.int .i64 f)], [D.v (.int .i64 g)]] : List (List D)).getD i []))] (di (pk c p [a, b, d, e, f, g])) 2 [(0, srcBox c (p + 1)), (1, rowE [a, b, d, e, f, g])] := c_spec_l1Pick c hc p [a, b, d, e, f, g] hp hp2 (by simp)
theorem pick7 (c : List Int) (hc : okCode c) (p : Int) (a b d e f g h : Int) (hp : 0 ≤ p) (hp2 : p ≤ 549755813888) : MutOK Try.prog 120 [.ptr 0 0, .row 1] 2 [(0, srcBox c p), (1, .row 2 1 7 (fun i => ([[D.v (.int .i64 a)], [D.v (.int .i64 b)], [D.v (.int .i64 d)], [D.v (.int .i64 e)], [D.v (.int .i64 f)], [D.v (.int .i64 g)], [D.v (.int .i64 h)]] : List (List D)).getD i []))] (di (pk c p [a, b, d, e, f, g, h])) 2 [(0, srcBox c (p + 1)), (1, rowE [a, b, d, e, f, g, h])] := c_spec_l1Pick c hc p [a, b, d, e, f, g, h] hp hp2 (by simp)
end Go.Proofs.Ytojaakpnpdnbhaa.L

/- What the functions compute that tell the words of a lonely machine's page: contracts. -/
set_option linter.unusedVariables false
set_option linter.unusedSimpArgs false
set_option maxRecDepth 100000
namespace Go.Proofs.Ytojaakpnpdnbhaa.L
open Go.RowKit
abbrev irsR (p : Int × List Int) : RV1 := .agg [.v (.int .i64 p.1), oInts p.2]
abbrev irsLV (p : Int × List Int) : LV := .agg [di p.1, .d (ints p.2)]
def soloWords (x : SoloM) (p : Int) : Int × List Int := if soloFault x = 0 then (bif !inR p 0 7 then (3, []) else (0, pageW x.mem p)) else (soloFault x, [])
theorem soloFault_mem {x : SoloM} (h : soloFault x = 0) : x.mem.length = 64 := by
  unfold soloFault at h
  split at h
  · split at h
    · cases hb : (memFault x.mem != 0) || ((x.mem.length : Int) != 64) with
      | true => rw [hb] at h; simp at h
      | false => simp only [Bool.or_eq_false_iff, bne_eq_false_iff_eq] at hb; omega
    · rename_i h2; exact absurd h h2
  · rename_i h2; exact absurd h h2
end Go.Proofs.Ytojaakpnpdnbhaa.L

/- What the law functions compute on an answer that is a code and a row of words: contracts. -/
set_option linter.unusedVariables false
set_option linter.unusedSimpArgs false
set_option maxRecDepth 100000
namespace Go.Proofs.Ytojaakpnpdnbhaa.L
open Go.RowKit
theorem c_laws_eqIntsResult (p q : Int × List Int) (hs : p.2.length ≤ 9223372036854775807) : FnOK Try.prog 27 [irsLV p, irsLV q] (rb (decide (p = q))) := by
  refine fn_of lv27 Try.func27 rfl rfl (by kernel_rfl) rfl ?_
  repeat' (first | refine bsplit_true ?_ | refine bsplit_false ?_ | refine .inl ⟨_, _, rfl, c_laws_eqInt64S p.2 q.2 hs, rfl, ?_⟩ | refine bsplit_intro (fun h => ?_) (fun h => ?_))
  all_goals refine ⟨⟨congrArg Value.bool ?_, trivial⟩, rfl⟩
  all_goals (obtain ⟨a1, a2⟩ := p; obtain ⟨b1, b2⟩ := q; simp_all)
theorem c_laws_markIntsResult (p : Int × List Int) (k : Int) (hf : p.2.length ≤ 1099511627776) (hk : 0 ≤ k) (hk2 : k ≤ 1099511627776) : MutOK Try.prog 30 [.agg [di p.1, .row 0], di k] 1 [(0, rowE p.2)] (di (k + p.2.length)) 1 [(0, rowM p.2 k)] := by
  refine mut_fn_of lv30 Try.func30 rfl rfl (by kernel_rfl) rfl [] ?_
  refine .inr ⟨rfl, use_mut ⟨_, _, _, _, _, _, rfl, rfl, c_laws_markInt64S p.2 k hf hk hk2, rfl, ?_⟩⟩
  exact chk_intro (by kernel_rfl) ⟨tellV_v rfl rfl, tellHp_row rfl rfl rfl (fun j hj => rfl) tellHp_nil⟩
theorem c_laws_heldIntsResult (p : Int × List Int) (k : Int) (hf : p.2.length ≤ 1099511627776) (hk : 0 ≤ k) (hk2 : k ≤ 1099511627776) : FnOK Try.prog 31 [.agg [di p.1, datM p.2 k], di k] (ri (k + p.2.length)) := by
  refine fn_of lv31 Try.func31 rfl rfl (by kernel_rfl) rfl ?_
  refine .inl ⟨_, _, rfl, c_laws_heldInt64S k p.2.length hf hk hk2, rfl, ?_⟩
  refine bsplit_of_false (decide_eq_false (show ¬ k + (p.2.length : Int) < 0 by omega)) ?_
  exact ⟨⟨rfl, trivial⟩, rfl⟩
end Go.Proofs.Ytojaakpnpdnbhaa.L

/- What the law functions compute that mark pages: contracts. -/
set_option linter.unusedVariables false
set_option linter.unusedSimpArgs false
set_option maxRecDepth 100000
namespace Go.Proofs.Ytojaakpnpdnbhaa.L
open Go.RowKit
abbrev rowP (l : List PageM) : Ent := .row 133 2 l.length (pagesF l)
/-- pages that bear the numbers from k on -/
abbrev pageMk (k : Int) (j : Nat) : List D := [.v (.int .i64 (k + 2 * (j : Int))), .v (.int .i64 (k + 2 * (j : Int) + 1))]
theorem c_laws_markPageS (l : List PageM) (k : Int) (hl : l.length ≤ 1099511627776) (hk : 0 ≤ k) (hk2 : k ≤ 1099511627776) :
    MutOK Try.prog 69 [.row 0, di k] 1 [(0, rowP l)] (di (k + 2 * l.length)) 1 [(0, .row 133 2 l.length (pageMk k))] := by
  refine mut_fn_of lv69 Try.func69 rfl rfl (by kernel_rfl) rfl [] ?_
  refine ⟨{ i : Nat // i ≤ l.length }, fun i => ⟨frL [(0, .row 0), (1, di (k + 2 * (i.1 : Int))), (5, di i.1)], hpL [(0, .row 133 2 l.length fun j => if j < i.1 then pageMk k j else pagesF l j)], 1, 1⟩, fun i => l.length - i.1, ⟨0, by omega⟩,
    le_of [] rfl rfl rfl rfl (tellHp_row rfl rfl rfl (fun i hi => rfl) tellHp_nil) (tellFr_row rfl rfl (tellFr_v rfl (congrArg (Value.int .i64) (?_ : k = k + 2 * ((0 : Nat) : Int))) (tellFr_v rfl rfl trivial))), ?_⟩
  · omega
  rintro ⟨i, hi⟩
  refine bsplit_intro (fun h => ?_) (fun h => ?_)
  · have h : i < l.length := by simp at h; exact h
    have w1 : IntKind.i64.wrap (k + 2 * (i : Int) + 1) = k + 2 * (i : Int) + 1 := wrap_i64 _ (by omega) (by omega)
    refine ask_intro ⟨by omega, by simp; omega⟩ ?_
    refine ask_intro (by show i < l.length; exact h) ?_
    refine ask_intro ⟨by omega, by simp; omega⟩ ?_
    refine ask_intro (by show i < l.length; exact h) ?_
    refine ⟨⟨i + 1, by omega⟩, le_of [] rfl rfl rfl rfl (tellHp_row rfl rfl rfl (fun j hj => ?_) tellHp_nil) (tellFr_row rfl rfl (tellFr_v rfl (congrArg (Value.int .i64) (?_ : IntKind.i64.wrap (IntKind.i64.wrap (k + 2 * (i : Int) + 1) + 1) = k + 2 * ((i + 1 : Nat) : Int))) (tellFr_v rfl (congrArg (Value.int .i64) (?_ : IntKind.i64.wrap ((i : Int) + 1) = ((i + 1 : Nat) : Int))) trivial))), by show l.length - (i + 1) < l.length - i; omega⟩
    · show (if j = i then splice (if j = i then splice (if j < i then pageMk k j else pagesF l j) 0 [D.v (.int .i64 (k + 2 * (i : Int)))] else if j < i then pageMk k j else pagesF l j) 1 [D.v (.int .i64 (IntKind.i64.wrap (k + 2 * (i : Int) + 1)))] else if j = i then splice (if j < i then pageMk k j else pagesF l j) 0 [D.v (.int .i64 (k + 2 * (i : Int)))] else if j < i then pageMk k j else pagesF l j) = if j < i + 1 then pageMk k j else pagesF l j
      by_cases h1 : j = i
      · subst h1
        rw [if_pos rfl, if_pos rfl, if_neg (by omega), if_pos (by omega), w1]
        rfl
      · rw [if_neg h1, if_neg h1]
        by_cases h2 : j < i
        · rw [if_pos h2, if_pos (by omega)]
        · rw [if_neg h2, if_neg (by omega)]
    · rw [w1, wrap_i64 _ (by omega) (by omega)]; omega
    · exact wrap_i64 (i + 1) (by omega) (by omega)
  · simp at h
    have e : i = l.length := by omega
    subst e
    refine chk_intro (by kernel_rfl) ⟨tellV_v rfl rfl, tellHp_row rfl rfl rfl (fun j hj => ?_) tellHp_nil⟩
    show (if j < l.length then pageMk k j else pagesF l j) = pageMk k j
    rw [if_pos hj]
end Go.Proofs.Ytojaakpnpdnbhaa.L

/- What the functions compute that draw pages and memories: contracts. -/
set_option linter.unusedVariables false
set_option linter.unusedSimpArgs false
set_option maxRecDepth 100000
namespace Go.Proofs.Ytojaakpnpdnbhaa.L
open Go.RowKit
set_option maxHeartbeats 2000000 in
theorem c_spec_l4Pages (c : List Int) (hc : okCode c) (p top : Int) (hp : 0 ≤ p) (hp2 : p ≤ 1099511627) (ht : 1 ≤ top) : MutS Try.prog 181 [.ptr 0 0, di top] 1 [(0, srcBox c p)]
    (fun lv m' hp1 => ∃ (l : List PageM) (q : Int), l.length = 8 ∧ p ≤ q ∧ q ≤ p + 100 ∧ lv = .row 1 ∧ m' = 2 ∧ hp1 = [(0, srcBox c q), (1, rowP l)]) := by
  refine mutS_fn_of lv181 Try.func181 rfl rfl (by kernel_rfl) rfl ?_
  refine ⟨{ x : List PageM × Int // x.1.length ≤ 8 ∧ p ≤ x.2 ∧ x.2 ≤ p + 3 * x.1.length }, fun x => ⟨frL [(0, .ptr 0 0), (1, di top), (5, .row 11), (6, di x.1.1.length)], hpL [(0, srcBox c x.1.2), (11, rowP x.1.1)], 100, 1⟩, fun x => 8 - x.1.1.length, ⟨([], p), by show 0 ≤ 8; omega, by show p ≤ p; omega, by show p ≤ p + 3 * ((0 : Nat) : Int); omega⟩,
    le_of [(11, 4097)] rfl rfl rfl rfl (tellHp_box rfl rfl ⟨DLe.refl _, rfl, trivial⟩ (tellHp_row rfl rfl rfl (fun j hj => absurd hj (by omega)) tellHp_nil)) (tellFr_ptr rfl rfl (tellFr_v rfl rfl (tellFr_row rfl rfl (tellFr_v rfl rfl trivial)))), ?_⟩
  rintro ⟨⟨l, q⟩, h1, h2, h3⟩
  simp only at h1 h2 h3
  refine bsplit_intro (fun h => ?_) (fun h => ?_)
  · have h : l.length < 8 := by simp at h; omega
    have hw : ∀ x : PageM, IntKind.i64.wrap ((l.length : Int) + 1) = ((l ++ [x]).length : Int) := fun x => by rw [wrap_i64 (l.length + 1) (by omega) (by omega)]; simp
    have hln : ∀ x : PageM, (l ++ [x]).length = l.length + 1 := fun x => by simp
    repeat' (first | refine bsplit_true ?_ | refine bsplit_false ?_ | (refine .inr ⟨rfl, use_mut ⟨?_, ?_, ?_, ?_, ?_, ?_, ?_, ?_, ?_, ?_, ?_⟩⟩; rotate_left 6; exact rfl; exact rfl; (first | (refine c_spec_l1Next c hc _ _ ?_ ?_ <;> (first | omega | (dsimp only; omega))) | (refine pick3 c hc _ _ _ _ ?_ ?_ <;> (first | omega | (dsimp only; omega))) | (refine pick4 c hc _ _ _ _ _ ?_ ?_ <;> (first | omega | (dsimp only; omega))) | (refine pick2 c hc _ _ _ ?_ ?_ <;> (first | omega | (dsimp only; omega))) | (refine pick6 c hc _ _ _ _ _ _ _ ?_ ?_ <;> (first | omega | (dsimp only; omega))) | (refine pick7 c hc _ _ _ _ _ _ _ _ ?_ ?_ <;> (first | omega | (dsimp only; omega))) | (refine pick5 c hc _ _ _ _ _ _ ?_ ?_ <;> (first | omega | (dsimp only; omega))) | (refine c_spec_l1Chance c hc _ _ ?_ ?_ <;> (first | omega | (dsimp only; omega))) | (refine c_spec_l1Word c hc _ ?_ ?_ <;> (first | omega | (dsimp only; omega)))); rfl))
    refine bsplit_intro (fun h6 => ?_) (fun h6 => ?_)
    · refine .inl ⟨_, _, rfl, c_spec_l4None, rfl, ?_⟩
      refine ask_intro ⟨by show (l.length + 1) * 16 ≤ 140737488355328; omega, by show l.length + 1 ≤ 9223372036854775807; omega, one_len2 ⟨-1, 0⟩⟩ ?_
      have hl2 := hln ⟨-1, 0⟩
      exact ⟨⟨(l ++ [(⟨-1, 0⟩ : PageM)], q + 1 + 1 + 1), by show (l ++ [(⟨-1, 0⟩ : PageM)]).length ≤ 8; omega, by show p ≤ q + 1 + 1 + 1; omega, by show q + 1 + 1 + 1 ≤ p + 3 * ((l ++ [(⟨-1, 0⟩ : PageM)]).length : Int); omega⟩,
        le_of [(11, 16580)] rfl rfl rfl rfl (tellHp_box rfl rfl ⟨DLe.refl _, rfl, trivial⟩ (tellHp_row rfl rfl hl2.symm (fun j hj => app_pages l ⟨-1, 0⟩ j hj) tellHp_nil)) (tellFr_ptr rfl rfl (tellFr_v rfl rfl (tellFr_row rfl rfl (tellFr_v rfl (congrArg (Value.int .i64) (hw _)) trivial)))), by show 8 - (l ++ [(⟨-1, 0⟩ : PageM)]).length < 8 - l.length; omega⟩
    · refine ask_intro ⟨by show (l.length + 1) * 16 ≤ 140737488355328; omega, by show l.length + 1 ≤ 9223372036854775807; omega, one_len2 ⟨nx c q top, pk c (q + 1) [7, 3, 1, 5, 2, 4]⟩⟩ ?_
      have hl2 := hln ⟨nx c q top, pk c (q + 1) [7, 3, 1, 5, 2, 4]⟩
      exact ⟨⟨(l ++ [(⟨nx c q top, pk c (q + 1) [7, 3, 1, 5, 2, 4]⟩ : PageM)], q + 1 + 1 + 1), by show (l ++ [(⟨nx c q top, pk c (q + 1) [7, 3, 1, 5, 2, 4]⟩ : PageM)]).length ≤ 8; omega, by show p ≤ q + 1 + 1 + 1; omega, by show q + 1 + 1 + 1 ≤ p + 3 * ((l ++ [(⟨nx c q top, pk c (q + 1) [7, 3, 1, 5, 2, 4]⟩ : PageM)]).length : Int); omega⟩,
        le_of [(11, 12484)] rfl rfl rfl rfl (tellHp_box rfl rfl ⟨DLe.refl _, rfl, trivial⟩ (tellHp_row rfl rfl hl2.symm (fun j hj => app_pages l ⟨nx c q top, pk c (q + 1) [7, 3, 1, 5, 2, 4]⟩ j hj) tellHp_nil)) (tellFr_ptr rfl rfl (tellFr_v rfl rfl (tellFr_row rfl rfl (tellFr_v rfl (congrArg (Value.int .i64) (hw _)) trivial)))), by show 8 - (l ++ [(⟨nx c q top, pk c (q + 1) [7, 3, 1, 5, 2, 4]⟩ : PageM)]).length < 8 - l.length; omega⟩
  · have h : l.length = 8 := by simp at h; omega
    exact ⟨_, _, _, [(1, 11)], ⟨l, q, h, h2, by omega, rfl, rfl, rfl⟩, chk_intro (by kernel_rfl) ⟨rfl, tellHp_box rfl rfl ⟨DLe.refl _, rfl, trivial⟩ (tellHp_row rfl rfl rfl (fun j hj => rfl) tellHp_nil)⟩⟩
theorem set_pageT {l : List PageM} {i : Nat} {v : Int} (hi : i < l.length) (j : Nat) : (if j = i then splice (pagesF l j) 0 [D.v (.int .i64 v)] else pagesF l j) = pagesF (l.set i ⟨v, (l.getD i ⟨0, 0⟩).kinds⟩) j := by
  show _ = pageD ((l.set i ⟨v, (l.getD i ⟨0, 0⟩).kinds⟩).getD j ⟨0, 0⟩)
  by_cases e : j = i
  · subst e
    rw [if_pos rfl]
    simp [List.getD, hi, splice, List.getElem?_eq_getElem hi]
  · rw [if_neg e]
    show pageD (l.getD j ⟨0, 0⟩) = _
    simp [List.getD, List.getElem?_set_ne (Ne.symm e)]
theorem set_pageK {l : List PageM} {i : Nat} {v : Int} (hi : i < l.length) (j : Nat) : (if j = i then splice (pagesF l j) 1 [D.v (.int .i64 v)] else pagesF l j) = pagesF (l.set i ⟨(l.getD i ⟨0, 0⟩).to, v⟩) j := by
  show _ = pageD ((l.set i ⟨(l.getD i ⟨0, 0⟩).to, v⟩).getD j ⟨0, 0⟩)
  by_cases e : j = i
  · subst e
    rw [if_pos rfl]
    simp [List.getD, hi, splice, List.getElem?_eq_getElem hi]
  · rw [if_neg e]
    show pageD (l.getD j ⟨0, 0⟩) = _
    simp [List.getD, List.getElem?_set_ne (Ne.symm e)]
theorem set_pageB {l : List PageM} {i : Nat} {v : PageM} (hi : i < l.length) (j : Nat) : (if j = i then splice (pagesF l j) 0 (pageD v) else pagesF l j) = pagesF (l.set i v) j := by
  show _ = pageD ((l.set i v).getD j ⟨0, 0⟩)
  by_cases e : j = i
  · subst e
    rw [if_pos rfl]
    simp [List.getD, hi, splice, List.getElem?_eq_getElem hi]
  · rw [if_neg e]
    show pageD (l.getD j ⟨0, 0⟩) = _
    simp [List.getD, List.getElem?_set_ne (Ne.symm e)]
theorem drop_pages (l : List PageM) (k i : Nat) : pagesF l (k + i) = pagesF (l.drop k) i := by
  show pageD (l.getD (k + i) ⟨0, 0⟩) = pageD ((l.drop k).getD i ⟨0, 0⟩)
  simp [List.getD, List.getElem?_drop]
theorem c_spec_l4Bent (c : List Int) (hc : okCode c) (p top : Int) (hp : 0 ≤ p) (hp2 : p ≤ 109951162) (ht : 1 ≤ top) : MutS Try.prog 117 [.ptr 0 0, di top] 1 [(0, srcBox c p)]
    (fun lv m' hp1 => ∃ (l : List PageM) (q : Int), 7 ≤ l.length ∧ l.length ≤ 8 ∧ p ≤ q ∧ q ≤ p + 110 ∧ lv = .d (Go.Proofs.Ytojaakpnpdnbhaa.L.pages l) ∧ m' = 1 ∧ hp1 = [(0, srcBox c q)]) := by
  refine mutS_fn_of lv117 Try.func117 rfl rfl (by kernel_rfl) rfl ?_
  refine .inr ⟨rfl, use_mutS ⟨_, _, _, _, rfl, rfl, c_spec_l4Pages c hc p top hp (by omega) ht, rfl, ?_⟩⟩
  rintro _ _ _ ⟨l, q, hl, hq1, hq2, rfl, rfl, rfl⟩
  refine ⟨rfl, ?_⟩
  have h8 := nx_in (c := c) hc (p := q) (n := 8) (by omega) (by omega)
  have hlt : nx c q 8 < (l.length : Int) := by rw [hl]; omega
  have hln : (nx c q 8).toNat < l.length := by omega
  have fin : ∀ k : Nat, k = k := fun _ => rfl
  repeat' (first | refine bsplit_true ?_ | refine bsplit_false ?_ | (refine .inr ⟨rfl, use_mut ⟨?_, ?_, ?_, ?_, ?_, ?_, ?_, ?_, ?_, ?_, ?_⟩⟩; rotate_left 6; exact rfl; exact rfl; (first | (refine c_spec_l1Next c hc _ _ ?_ ?_ <;> (first | omega | (dsimp only; omega))) | (refine pick3 c hc _ _ _ _ ?_ ?_ <;> (first | omega | (dsimp only; omega))) | (refine pick4 c hc _ _ _ _ _ ?_ ?_ <;> (first | omega | (dsimp only; omega))) | (refine pick2 c hc _ _ _ ?_ ?_ <;> (first | omega | (dsimp only; omega))) | (refine pick6 c hc _ _ _ _ _ _ _ ?_ ?_ <;> (first | omega | (dsimp only; omega))) | (refine pick7 c hc _ _ _ _ _ _ _ _ ?_ ?_ <;> (first | omega | (dsimp only; omega))) | (refine pick5 c hc _ _ _ _ _ _ ?_ ?_ <;> (first | omega | (dsimp only; omega))) | (refine c_spec_l1Chance c hc _ _ ?_ ?_ <;> (first | omega | (dsimp only; omega))) | (refine c_spec_l1Word c hc _ ?_ ?_ <;> (first | omega | (dsimp only; omega)))); rfl))
  refine bsplit_intro (fun h => ?_) (fun h => ?_)
  · repeat' (first | refine bsplit_true ?_ | refine bsplit_false ?_ | (refine .inr ⟨rfl, use_mut ⟨?_, ?_, ?_, ?_, ?_, ?_, ?_, ?_, ?_, ?_, ?_⟩⟩; rotate_left 6; exact rfl; exact rfl; (first | (refine c_spec_l1Next c hc _ _ ?_ ?_ <;> (first | omega | (dsimp only; omega))) | (refine pick3 c hc _ _ _ _ ?_ ?_ <;> (first | omega | (dsimp only; omega))) | (refine pick4 c hc _ _ _ _ _ ?_ ?_ <;> (first | omega | (dsimp only; omega))) | (refine pick2 c hc _ _ _ ?_ ?_ <;> (first | omega | (dsimp only; omega))) | (refine pick6 c hc _ _ _ _ _ _ _ ?_ ?_ <;> (first | omega | (dsimp only; omega))) | (refine pick7 c hc _ _ _ _ _ _ _ _ ?_ ?_ <;> (first | omega | (dsimp only; omega))) | (refine pick5 c hc _ _ _ _ _ _ ?_ ?_ <;> (first | omega | (dsimp only; omega))) | (refine c_spec_l1Chance c hc _ _ ?_ ?_ <;> (first | omega | (dsimp only; omega))) | (refine c_spec_l1Word c hc _ ?_ ?_ <;> (first | omega | (dsimp only; omega)))); rfl))
    refine ask_intro ⟨h8.1, hlt⟩ ?_
    refine ask_intro (by show (nx c q 8).toNat < l.length; exact hln) ?_
    exact ⟨_, _, _, [], ⟨l.set (nx c q 8).toNat ⟨pk c (q + 1 + 1) [-2, top, -1], (l.getD (nx c q 8).toNat ⟨0, 0⟩).kinds⟩, q + 1 + 1 + 1, by rw [List.length_set]; omega, by rw [List.length_set]; omega, by omega, by omega, rfl, rfl, rfl⟩,
      chk_intro (by kernel_rfl) ⟨tellV_frz rfl rfl rfl (DLe.l (by rw [List.length_set]) (fun j hj => set_pageT hln j)), tellHp_box rfl rfl ⟨DLe.refl _, rfl, trivial⟩ tellHp_nil⟩⟩
  refine bsplit_intro (fun h1 => ?_) (fun h1 => ?_)
  · repeat' (first | refine bsplit_true ?_ | refine bsplit_false ?_ | (refine .inr ⟨rfl, use_mut ⟨?_, ?_, ?_, ?_, ?_, ?_, ?_, ?_, ?_, ?_, ?_⟩⟩; rotate_left 6; exact rfl; exact rfl; (first | (refine c_spec_l1Next c hc _ _ ?_ ?_ <;> (first | omega | (dsimp only; omega))) | (refine pick3 c hc _ _ _ _ ?_ ?_ <;> (first | omega | (dsimp only; omega))) | (refine pick4 c hc _ _ _ _ _ ?_ ?_ <;> (first | omega | (dsimp only; omega))) | (refine pick2 c hc _ _ _ ?_ ?_ <;> (first | omega | (dsimp only; omega))) | (refine pick6 c hc _ _ _ _ _ _ _ ?_ ?_ <;> (first | omega | (dsimp only; omega))) | (refine pick7 c hc _ _ _ _ _ _ _ _ ?_ ?_ <;> (first | omega | (dsimp only; omega))) | (refine pick5 c hc _ _ _ _ _ _ ?_ ?_ <;> (first | omega | (dsimp only; omega))) | (refine c_spec_l1Chance c hc _ _ ?_ ?_ <;> (first | omega | (dsimp only; omega))) | (refine c_spec_l1Word c hc _ ?_ ?_ <;> (first | omega | (dsimp only; omega)))); rfl))
    refine ask_intro ⟨h8.1, hlt⟩ ?_
    refine ask_intro (by show (nx c q 8).toNat < l.length; exact hln) ?_
    exact ⟨_, _, _, [], ⟨l.set (nx c q 8).toNat ⟨(l.getD (nx c q 8).toNat ⟨0, 0⟩).to, pk c (q + 1 + 1) [-1, 8, 0, 7]⟩, q + 1 + 1 + 1, by rw [List.length_set]; omega, by rw [List.length_set]; omega, by omega, by omega, rfl, rfl, rfl⟩,
      chk_intro (by kernel_rfl) ⟨tellV_frz rfl rfl rfl (DLe.l (by rw [List.length_set]) (fun j hj => set_pageK hln j)), tellHp_box rfl rfl ⟨DLe.refl _, rfl, trivial⟩ tellHp_nil⟩⟩
  refine bsplit_intro (fun h2 => ?_) (fun h2 => ?_)
  · refine ask_intro ⟨by omega, by show (1 : Int) ≤ (l.length : Int); omega, by show (l.length : Int) ≤ (l.length : Int); omega, .inr (fun i hi => rfl)⟩ ?_
    exact ⟨_, _, _, [], ⟨l.drop 1, q + 1 + 1, by rw [List.length_drop]; omega, by rw [List.length_drop]; omega, by omega, by omega, rfl, rfl, rfl⟩,
      chk_intro (by kernel_rfl) ⟨DLe.l (by rw [List.length_drop]; omega) (fun j hj => drop_pages l 1 j), tellHp_box rfl rfl ⟨DLe.refl _, rfl, trivial⟩ tellHp_nil⟩⟩
  · exact ⟨_, _, _, [], ⟨l, q + 1 + 1, by omega, by omega, by omega, by omega, rfl, rfl, rfl⟩,
      chk_intro (by kernel_rfl) ⟨tellV_frz rfl rfl rfl (DLe.refl _), tellHp_box rfl rfl ⟨DLe.refl _, rfl, trivial⟩ tellHp_nil⟩⟩
end Go.Proofs.Ytojaakpnpdnbhaa.L

/- Draws of caches: contracts. -/
set_option linter.unusedVariables false
set_option linter.unusedSimpArgs false
set_option maxRecDepth 100000
namespace Go.Proofs.Ytojaakpnpdnbhaa.L
open Go.RowKit
theorem set_hitT {l : List HitM} {i : Nat} {v : Int} (hi : i < l.length) (j : Nat) : (if j = i then splice (hitsF l j) 0 [D.v (.int .i64 v)] else hitsF l j) = hitsF (l.set i ⟨v, (l.getD i hit0).page, (l.getD i hit0).to, (l.getD i hit0).kinds⟩) j := by
  show _ = hitD ((l.set i _).getD j hit0)
  by_cases e : j = i
  · subst e
    rw [if_pos rfl]
    simp [List.getD, hi, splice, List.getElem?_eq_getElem hi]
  · rw [if_neg e]
    show hitD (l.getD j hit0) = _
    simp [List.getD, List.getElem?_set_ne (Ne.symm e)]
theorem set_hitK {l : List HitM} {i : Nat} {v : Int} (hi : i < l.length) (j : Nat) : (if j = i then splice (hitsF l j) 3 [D.v (.int .i64 v)] else hitsF l j) = hitsF (l.set i ⟨(l.getD i hit0).tag, (l.getD i hit0).page, (l.getD i hit0).to, v⟩) j := by
  show _ = hitD ((l.set i _).getD j hit0)
  by_cases e : j = i
  · subst e
    rw [if_pos rfl]
    simp [List.getD, hi, splice, List.getElem?_eq_getElem hi]
  · rw [if_neg e]
    show hitD (l.getD j hit0) = _
    simp [List.getD, List.getElem?_set_ne (Ne.symm e)]
theorem c_spec_l4Place (c : List Int) (hc : okCode c) (p : Int) (hp : 0 ≤ p) (hp2 : p ≤ 1099511627) : MutS Try.prog 119 [.ptr 0 0] 1 [(0, srcBox c p)]
    (fun lv m' hp1 => ∃ v, lv = di v ∧ m' = 1 ∧ hp1 = [(0, srcBox c (p + 4))]) := by
  refine mutS_fn_of lv119 Try.func119 rfl rfl (by kernel_rfl) rfl ?_
  repeat' (first | refine bsplit_true ?_ | refine bsplit_false ?_ | (refine .inr ⟨rfl, use_mut ⟨?_, ?_, ?_, ?_, ?_, ?_, ?_, ?_, ?_, ?_, ?_⟩⟩; rotate_left 6; exact rfl; exact rfl; (first | (refine c_spec_l1Next c hc _ _ ?_ ?_ <;> (first | omega | (dsimp only; omega))) | (refine pick3 c hc _ _ _ _ ?_ ?_ <;> (first | omega | (dsimp only; omega))) | (refine pick4 c hc _ _ _ _ _ ?_ ?_ <;> (first | omega | (dsimp only; omega))) | (refine pick2 c hc _ _ _ ?_ ?_ <;> (first | omega | (dsimp only; omega))) | (refine pick6 c hc _ _ _ _ _ _ _ ?_ ?_ <;> (first | omega | (dsimp only; omega))) | (refine pick7 c hc _ _ _ _ _ _ _ _ ?_ ?_ <;> (first | omega | (dsimp only; omega))) | (refine pick5 c hc _ _ _ _ _ _ ?_ ?_ <;> (first | omega | (dsimp only; omega))) | (refine c_spec_l1Chance c hc _ _ ?_ ?_ <;> (first | omega | (dsimp only; omega))) | (refine c_spec_l1Word c hc _ ?_ ?_ <;> (first | omega | (dsimp only; omega)))); rfl))
  exact ⟨_, _, _, [], ⟨_, rfl, rfl, rfl⟩, chk_intro (by kernel_rfl) ⟨rfl, tellHp_box rfl rfl ⟨DLe.refl _, congrArg (Value.int .i64) (by omega), trivial⟩ tellHp_nil⟩⟩
theorem c_spec_l4DrawKind (c : List Int) (hc : okCode c) (p : Int) (hp : 0 ≤ p) (hp2 : p ≤ 1099511627) : MutS Try.prog 121 [.ptr 0 0] 1 [(0, srcBox c p)]
    (fun lv m' hp1 => ∃ v q, p ≤ q ∧ q ≤ p + 4 ∧ lv = di v ∧ m' = 1 ∧ hp1 = [(0, srcBox c q)]) := by
  refine mutS_fn_of lv121 Try.func121 rfl rfl (by kernel_rfl) rfl ?_
  repeat' (first | refine bsplit_true ?_ | refine bsplit_false ?_ | (refine .inr ⟨rfl, use_mut ⟨?_, ?_, ?_, ?_, ?_, ?_, ?_, ?_, ?_, ?_, ?_⟩⟩; rotate_left 6; exact rfl; exact rfl; (first | (refine c_spec_l1Next c hc _ _ ?_ ?_ <;> (first | omega | (dsimp only; omega))) | (refine pick3 c hc _ _ _ _ ?_ ?_ <;> (first | omega | (dsimp only; omega))) | (refine pick4 c hc _ _ _ _ _ ?_ ?_ <;> (first | omega | (dsimp only; omega))) | (refine pick2 c hc _ _ _ ?_ ?_ <;> (first | omega | (dsimp only; omega))) | (refine pick6 c hc _ _ _ _ _ _ _ ?_ ?_ <;> (first | omega | (dsimp only; omega))) | (refine pick7 c hc _ _ _ _ _ _ _ _ ?_ ?_ <;> (first | omega | (dsimp only; omega))) | (refine pick5 c hc _ _ _ _ _ _ ?_ ?_ <;> (first | omega | (dsimp only; omega))) | (refine c_spec_l1Chance c hc _ _ ?_ ?_ <;> (first | omega | (dsimp only; omega))) | (refine c_spec_l1Word c hc _ ?_ ?_ <;> (first | omega | (dsimp only; omega)))); rfl))
  exact ⟨_, _, _, [], ⟨_, _, by omega, by omega, rfl, rfl, rfl⟩, chk_intro (by kernel_rfl) ⟨rfl, tellHp_box rfl rfl ⟨DLe.refl _, rfl, trivial⟩ tellHp_nil⟩⟩
theorem fillC_len (c : List HitM) (h : HitM) (hc : c.length ≤ 13) : (fillC c h).length ≤ 13 := by
  have h1 := lessC_len c h
  unfold fillC
  simp only [List.length_append, List.length_cons, List.length_nil]
  by_cases h2 : c.length ≤ 12
  · omega
  · unfold lessC
    split
    · rename_i h3
      have := find_lt h3
      rw [List.length_eraseIdx, if_pos this.2]; omega
    · rw [if_pos (by omega), List.length_eraseIdx, if_pos (by omega)]; omega
set_option maxHeartbeats 4000000 in
theorem c_spec_l5Cache (c : List Int) (hc : okCode c) (p : Int) (l : List PageM) (hl : l.length ≤ 1048576) (hp : 0 ≤ p) (hp2 : p ≤ 1099511627) : MutS Try.prog 118 [.ptr 0 0, .d (Go.Proofs.Ytojaakpnpdnbhaa.L.pages l)] 1 [(0, srcBox c p)]
    (fun lv m' hp1 => ∃ (h : List HitM) (q : Int), h.length ≤ 14 ∧ p ≤ q ∧ q ≤ p + 120 ∧ lv = .d (hits h) ∧ m' = 1 ∧ hp1 = [(0, srcBox c q)]) := by
  have a1 := nx_in (c := c) hc (p := p) (n := 6) (by omega) (by omega)
  have a2 := nx_in (c := c) hc (p := p + 1) (n := 6) (by omega) (by omega)
  obtain ⟨n, hn⟩ : ∃ n, n = pk c (p + 1 + 1) [nx c p 6, nx c (p + 1) 6, 14] := ⟨_, rfl⟩
  have hn2 : 0 ≤ n ∧ n ≤ 14 := by
    have := pk_mem (c := c) hc (p := p + 1 + 1) (by omega) (l := [nx c p 6, nx c (p + 1) 6, 14]) (by simp)
    rw [← hn] at this
    simp only [List.mem_cons, List.not_mem_nil, or_false] at this
    omega
  have c1 := pick3 c hc (p + 1 + 1) (nx c p 6) (nx c (p + 1) 6) 14 (by omega) (by omega)
  rw [← hn] at c1
  refine mutS_fn_of lv118 Try.func118 rfl rfl (by kernel_rfl) rfl ?_
  refine .inr ⟨rfl, use_mut ⟨_, _, _, _, _, _, rfl, rfl, c_spec_l1Next c hc p 6 (by omega) (by omega), rfl, ?_⟩⟩
  refine .inr ⟨rfl, use_mut ⟨_, _, _, _, _, _, rfl, rfl, c_spec_l1Next c hc (p + 1) 6 (by omega) (by omega), rfl, ?_⟩⟩
  refine .inr ⟨rfl, use_mut ⟨_, _, _, _, _, _, rfl, rfl, c1, rfl, ?_⟩⟩
  refine ⟨{ x : List HitM × Int × Nat // x.1.length ≤ 13 ∧ x.2.2 ≤ 14 ∧ p ≤ x.2.1 ∧ x.2.1 ≤ p + 3 + 6 * (14 - (x.2.2 : Int)) }, fun x => ⟨frL [(0, .ptr 0 0), (1, .d (Go.Proofs.Ytojaakpnpdnbhaa.L.pages l)), (5, .row 11), (6, di x.1.2.2)], hpL [(0, srcBox c x.1.2.1), (11, rowHit x.1.1)], 100, 1⟩, fun x => x.1.2.2, ⟨([], p + 1 + 1 + 1, n.toNat), by simp; omega⟩,
    le_of [(11, 4097)] rfl rfl rfl rfl (tellHp_box rfl rfl ⟨DLe.refl _, rfl, trivial⟩ (tellHp_row rfl rfl rfl (fun j hj => absurd hj (by omega)) tellHp_nil)) (tellFr_ptr rfl rfl (tellFr_d rfl (DLe.refl _) (tellFr_row rfl rfl (tellFr_v rfl (congrArg (Value.int .i64) (show n = ((n.toNat : Nat) : Int) by omega)) trivial)))), ?_⟩
  rintro ⟨⟨h, q, m⟩, h1, h2, h3, h4⟩
  simp only at h1 h2 h3 h4
  by_cases hm : 0 < m
  · have b1 := nx_in (c := c) hc (p := q) (n := 3) (by omega) (by omega)
    have b2 := nx_in (c := c) hc (p := q + 1) (n := 8) (by omega) (by omega)
    have b3 := nx_in (c := c) hc (p := q + 1 + 1) (n := 24) (by omega) (by omega)
    have b4 := nx_in (c := c) hc (p := q + 1 + 1 + 1) (n := 7) (by omega) (by omega)
    have hw : IntKind.i64.wrap ((m : Int) - 1) = ((m - 1 : Nat) : Int) := by rw [wrap_i64 _ (by omega) (by omega)]; omega
    refine bsplit_of_true (decide_eq_true (show (m : Int) > 0 by omega)) ?_
    obtain ⟨t, ht⟩ : ∃ t, t = nx c q 3 := ⟨_, rfl⟩
    obtain ⟨g, hg⟩ : ∃ g, g = nx c (q + 1) 8 := ⟨_, rfl⟩
    obtain ⟨o, ho⟩ : ∃ o, o = nx c (q + 1 + 1) 24 := ⟨_, rfl⟩
    obtain ⟨u, hu⟩ : ∃ u, u = IntKind.i64.wrap (1 + nx c (q + 1 + 1 + 1) 7) := ⟨_, rfl⟩
    have d1 := c_spec_l1Next c hc q 3 (by omega) (by omega)
    have d2 := c_spec_l1Next c hc (q + 1) 8 (by omega) (by omega)
    have d3 := c_spec_l1Next c hc (q + 1 + 1) 24 (by omega) (by omega)
    have d4 := c_spec_l1Next c hc (q + 1 + 1 + 1) 7 (by omega) (by omega)
    rw [← ht] at d1 b1
    rw [← hg] at d2 b2
    rw [← ho] at d3
    have e1 := c_spec_l5Hit ⟨0, 0, (l.getD g.toNat ⟨0, 0⟩).to, (l.getD g.toNat ⟨0, 0⟩).kinds⟩
    have e2 := c_spec_l5Fill h ⟨t, g, o, IntKind.i64.wrap (1 + nx c (q + 1 + 1 + 1) 7)⟩ (by omega)
    have e3 := c_spec_l5Fill h ⟨t, g, (l.getD g.toNat ⟨0, 0⟩).to, (l.getD g.toNat ⟨0, 0⟩).kinds⟩ (by omega)
    have e4 := c_spec_l1Chance c hc (q + 1 + 1 + 1 + 1) 6 (by omega) (by omega)
    have f1 := fillC_len h ⟨t, g, o, IntKind.i64.wrap (1 + nx c (q + 1 + 1 + 1) 7)⟩ (by omega)
    have f2 := fillC_len h ⟨t, g, (l.getD g.toNat ⟨0, 0⟩).to, (l.getD g.toNat ⟨0, 0⟩).kinds⟩ (by omega)
    by_cases h8 : l.length = 8
    · have hgl : g < (l.length : Int) := by omega
      by_cases hb : hitB ⟨0, 0, (l.getD g.toNat ⟨0, 0⟩).to, (l.getD g.toNat ⟨0, 0⟩).kinds⟩ = true
      · rw [hb] at e1
        by_cases hch : (nx c (q + 1 + 1 + 1 + 1) 6 == 0) = true
        · rw [hch] at e4
          refine .inr ⟨rfl, use_mut ⟨_, _, _, _, _, _, rfl, rfl, d1, rfl, ?_⟩⟩
          refine .inr ⟨rfl, use_mut ⟨_, _, _, _, _, _, rfl, rfl, d2, rfl, ?_⟩⟩
          refine .inr ⟨rfl, use_mut ⟨_, _, _, _, _, _, rfl, rfl, d3, rfl, ?_⟩⟩
          refine .inr ⟨rfl, use_mut ⟨_, _, _, _, _, _, rfl, rfl, d4, rfl, ?_⟩⟩
          refine bsplit_of_true (show ((l.length : Int) == 8) = true by rw [h8]; rfl) ?_
          repeat' (first | refine bsplit_true ?_ | refine bsplit_false ?_)
          refine ask_intro ⟨b2.1, hgl, rfl⟩ ?_
          repeat' (first | refine bsplit_true ?_ | refine bsplit_false ?_)
          refine ask_intro ⟨b2.1, hgl, rfl⟩ ?_
          repeat' (first | refine bsplit_true ?_ | refine bsplit_false ?_)
          refine .inl ⟨_, _, rfl, e1, rfl, ?_⟩
          repeat' (first | refine bsplit_true ?_ | refine bsplit_false ?_)
          refine .inr ⟨_, _, use_mut ⟨_, _, _, _, _, _, rfl, rfl, e4, rfl, ⟨rfl, rfl⟩⟩, ?_⟩
          repeat' (first | refine bsplit_true ?_ | refine bsplit_false ?_)
          refine chk_intro (by kernel_rfl) ?_
          repeat' (first | refine bsplit_true ?_ | refine bsplit_false ?_)
          refine .inl ⟨_, _, rfl, e2, rfl, ?_⟩
          exact ⟨⟨(fillC h ⟨t, g, o, IntKind.i64.wrap (1 + nx c (q + 1 + 1 + 1) 7)⟩, q + 1 + 1 + 1 + 1 + 1, m - 1), by show (fillC h _).length ≤ 13; omega, by show m - 1 ≤ 14; omega, by show p ≤ q + 1 + 1 + 1 + 1 + 1; omega, by show q + 1 + 1 + 1 + 1 + 1 ≤ p + 3 + 6 * (14 - ((m - 1 : Nat) : Int)); omega⟩,
            le_of [(11, 12452)] rfl rfl rfl rfl (tellHp_box rfl rfl ⟨DLe.refl _, rfl, trivial⟩ (tellHp_row rfl rfl rfl (fun j hj => rfl) tellHp_nil)) (tellFr_ptr rfl rfl (tellFr_d rfl (DLe.refl _) (tellFr_row rfl rfl (tellFr_v rfl (congrArg (Value.int .i64) hw) trivial)))), by show m - 1 < m; omega⟩
        · rw [show (nx c (q + 1 + 1 + 1 + 1) 6 == 0) = false by simpa using hch] at e4
          refine .inr ⟨rfl, use_mut ⟨_, _, _, _, _, _, rfl, rfl, d1, rfl, ?_⟩⟩
          refine .inr ⟨rfl, use_mut ⟨_, _, _, _, _, _, rfl, rfl, d2, rfl, ?_⟩⟩
          refine .inr ⟨rfl, use_mut ⟨_, _, _, _, _, _, rfl, rfl, d3, rfl, ?_⟩⟩
          refine .inr ⟨rfl, use_mut ⟨_, _, _, _, _, _, rfl, rfl, d4, rfl, ?_⟩⟩
          refine bsplit_of_true (show ((l.length : Int) == 8) = true by rw [h8]; rfl) ?_
          repeat' (first | refine bsplit_true ?_ | refine bsplit_false ?_)
          refine ask_intro ⟨b2.1, hgl, rfl⟩ ?_
          repeat' (first | refine bsplit_true ?_ | refine bsplit_false ?_)
          refine ask_intro ⟨b2.1, hgl, rfl⟩ ?_
          repeat' (first | refine bsplit_true ?_ | refine bsplit_false ?_)
          refine .inl ⟨_, _, rfl, e1, rfl, ?_⟩
          repeat' (first | refine bsplit_true ?_ | refine bsplit_false ?_)
          refine .inr ⟨_, _, use_mut ⟨_, _, _, _, _, _, rfl, rfl, e4, rfl, ⟨rfl, rfl⟩⟩, ?_⟩
          repeat' (first | refine bsplit_true ?_ | refine bsplit_false ?_)
          refine chk_intro (by kernel_rfl) ?_
          repeat' (first | refine bsplit_true ?_ | refine bsplit_false ?_)
          refine ask_intro ⟨b2.1, hgl, rfl⟩ ?_
          repeat' (first | refine bsplit_true ?_ | refine bsplit_false ?_)
          refine ask_intro ⟨b2.1, hgl, rfl⟩ ?_
          repeat' (first | refine bsplit_true ?_ | refine bsplit_false ?_)
          refine .inl ⟨_, _, rfl, e3, rfl, ?_⟩
          exact ⟨⟨(fillC h ⟨t, g, (l.getD g.toNat ⟨0, 0⟩).to, (l.getD g.toNat ⟨0, 0⟩).kinds⟩, q + 1 + 1 + 1 + 1 + 1, m - 1), by show (fillC h _).length ≤ 13; omega, by show m - 1 ≤ 14; omega, by show p ≤ q + 1 + 1 + 1 + 1 + 1; omega, by show q + 1 + 1 + 1 + 1 + 1 ≤ p + 3 + 6 * (14 - ((m - 1 : Nat) : Int)); omega⟩,
            le_of [(11, 20644)] rfl rfl rfl rfl (tellHp_box rfl rfl ⟨DLe.refl _, rfl, trivial⟩ (tellHp_row rfl rfl rfl (fun j hj => rfl) tellHp_nil)) (tellFr_ptr rfl rfl (tellFr_d rfl (DLe.refl _) (tellFr_row rfl rfl (tellFr_v rfl (congrArg (Value.int .i64) hw) trivial)))), by show m - 1 < m; omega⟩
      · rw [show hitB ⟨0, 0, (l.getD g.toNat ⟨0, 0⟩).to, (l.getD g.toNat ⟨0, 0⟩).kinds⟩ = false by simpa using hb] at e1
        refine .inr ⟨rfl, use_mut ⟨_, _, _, _, _, _, rfl, rfl, d1, rfl, ?_⟩⟩
        refine .inr ⟨rfl, use_mut ⟨_, _, _, _, _, _, rfl, rfl, d2, rfl, ?_⟩⟩
        refine .inr ⟨rfl, use_mut ⟨_, _, _, _, _, _, rfl, rfl, d3, rfl, ?_⟩⟩
        refine .inr ⟨rfl, use_mut ⟨_, _, _, _, _, _, rfl, rfl, d4, rfl, ?_⟩⟩
        refine bsplit_of_true (show ((l.length : Int) == 8) = true by rw [h8]; rfl) ?_
        repeat' (first | refine bsplit_true ?_ | refine bsplit_false ?_)
        refine ask_intro ⟨b2.1, hgl, rfl⟩ ?_
        repeat' (first | refine bsplit_true ?_ | refine bsplit_false ?_)
        refine ask_intro ⟨b2.1, hgl, rfl⟩ ?_
        repeat' (first | refine bsplit_true ?_ | refine bsplit_false ?_)
        refine .inl ⟨_, _, rfl, e1, rfl, ?_⟩
        repeat' (first | refine bsplit_true ?_ | refine bsplit_false ?_)
        refine chk_intro (by kernel_rfl) ?_
        repeat' (first | refine bsplit_true ?_ | refine bsplit_false ?_)
        refine .inl ⟨_, _, rfl, e2, rfl, ?_⟩
        exact ⟨⟨(fillC h ⟨t, g, o, IntKind.i64.wrap (1 + nx c (q + 1 + 1 + 1) 7)⟩, q + 1 + 1 + 1 + 1, m - 1), by show (fillC h _).length ≤ 13; omega, by show m - 1 ≤ 14; omega, by show p ≤ q + 1 + 1 + 1 + 1; omega, by show q + 1 + 1 + 1 + 1 ≤ p + 3 + 6 * (14 - ((m - 1 : Nat) : Int)); omega⟩,
          le_of [(11, 12452)] rfl rfl rfl rfl (tellHp_box rfl rfl ⟨DLe.refl _, rfl, trivial⟩ (tellHp_row rfl rfl rfl (fun j hj => rfl) tellHp_nil)) (tellFr_ptr rfl rfl (tellFr_d rfl (DLe.refl _) (tellFr_row rfl rfl (tellFr_v rfl (congrArg (Value.int .i64) hw) trivial)))), by show m - 1 < m; omega⟩
    · refine .inr ⟨rfl, use_mut ⟨_, _, _, _, _, _, rfl, rfl, d1, rfl, ?_⟩⟩
      refine .inr ⟨rfl, use_mut ⟨_, _, _, _, _, _, rfl, rfl, d2, rfl, ?_⟩⟩
      refine .inr ⟨rfl, use_mut ⟨_, _, _, _, _, _, rfl, rfl, d3, rfl, ?_⟩⟩
      refine .inr ⟨rfl, use_mut ⟨_, _, _, _, _, _, rfl, rfl, d4, rfl, ?_⟩⟩
      refine bsplit_of_false (show ((l.length : Int) == 8) = false by rw [beq_eq_false_iff_ne]; omega) ?_
      repeat' (first | refine bsplit_true ?_ | refine bsplit_false ?_)
      refine chk_intro (by kernel_rfl) ?_
      repeat' (first | refine bsplit_true ?_ | refine bsplit_false ?_)
      refine .inl ⟨_, _, rfl, e2, rfl, ?_⟩
      exact ⟨⟨(fillC h ⟨t, g, o, IntKind.i64.wrap (1 + nx c (q + 1 + 1 + 1) 7)⟩, q + 1 + 1 + 1 + 1, m - 1), by show (fillC h _).length ≤ 13; omega, by show m - 1 ≤ 14; omega, by show p ≤ q + 1 + 1 + 1 + 1; omega, by show q + 1 + 1 + 1 + 1 ≤ p + 3 + 6 * (14 - ((m - 1 : Nat) : Int)); omega⟩,
        le_of [(11, 12452)] rfl rfl rfl rfl (tellHp_box rfl rfl ⟨DLe.refl _, rfl, trivial⟩ (tellHp_row rfl rfl rfl (fun j hj => rfl) tellHp_nil)) (tellFr_ptr rfl rfl (tellFr_d rfl (DLe.refl _) (tellFr_row rfl rfl (tellFr_v rfl (congrArg (Value.int .i64) hw) trivial)))), by show m - 1 < m; omega⟩
  · obtain rfl : m = 0 := by omega
    refine bsplit_of_false (decide_eq_false (show ¬ ((0 : Nat) : Int) > 0 by omega)) ?_
    have hq : q ≤ p + 90 := by have : ((0 : Nat) : Int) = 0 := rfl; omega
    refine bsplit_intro (fun h5 => ?_) (fun h5 => ?_)
    · exact ⟨_, _, _, [], ⟨h, q, by omega, by omega, by omega, rfl, rfl, rfl⟩,
        chk_intro (by kernel_rfl) ⟨tellV_frz rfl rfl rfl (DLe.refl _), tellHp_box rfl rfl ⟨DLe.refl _, rfl, trivial⟩ tellHp_nil⟩⟩
    have h5 : 0 < h.length := by
      have h5 : ((h.length : Int) == 0) = false := h5
      rw [beq_eq_false_iff_ne] at h5
      omega
    repeat' (first | refine bsplit_true ?_ | refine bsplit_false ?_ | (refine .inr ⟨rfl, use_mut ⟨?_, ?_, ?_, ?_, ?_, ?_, ?_, ?_, ?_, ?_, ?_⟩⟩; rotate_left 6; exact rfl; exact rfl; (first | (refine c_spec_l1Next c hc _ _ ?_ ?_ <;> (first | omega | (dsimp only; omega))) | (refine pick3 c hc _ _ _ _ ?_ ?_ <;> (first | omega | (dsimp only; omega))) | (refine pick4 c hc _ _ _ _ _ ?_ ?_ <;> (first | omega | (dsimp only; omega))) | (refine pick2 c hc _ _ _ ?_ ?_ <;> (first | omega | (dsimp only; omega))) | (refine pick6 c hc _ _ _ _ _ _ _ ?_ ?_ <;> (first | omega | (dsimp only; omega))) | (refine pick7 c hc _ _ _ _ _ _ _ _ ?_ ?_ <;> (first | omega | (dsimp only; omega))) | (refine pick5 c hc _ _ _ _ _ _ ?_ ?_ <;> (first | omega | (dsimp only; omega))) | (refine c_spec_l1Chance c hc _ _ ?_ ?_ <;> (first | omega | (dsimp only; omega))) | (refine c_spec_l1Word c hc _ ?_ ?_ <;> (first | omega | (dsimp only; omega)))); rfl))
    refine bsplit_intro (fun h6 => ?_) (fun h6 => ?_)
    · repeat' (first | refine bsplit_true ?_ | refine bsplit_false ?_ | (refine .inr ⟨rfl, use_mut ⟨?_, ?_, ?_, ?_, ?_, ?_, ?_, ?_, ?_, ?_, ?_⟩⟩; rotate_left 6; exact rfl; exact rfl; (first | (refine c_spec_l1Next c hc _ _ ?_ ?_ <;> (first | omega | (dsimp only; omega))) | (refine pick3 c hc _ _ _ _ ?_ ?_ <;> (first | omega | (dsimp only; omega))) | (refine pick4 c hc _ _ _ _ _ ?_ ?_ <;> (first | omega | (dsimp only; omega))) | (refine pick2 c hc _ _ _ ?_ ?_ <;> (first | omega | (dsimp only; omega))) | (refine pick6 c hc _ _ _ _ _ _ _ ?_ ?_ <;> (first | omega | (dsimp only; omega))) | (refine pick7 c hc _ _ _ _ _ _ _ _ ?_ ?_ <;> (first | omega | (dsimp only; omega))) | (refine pick5 c hc _ _ _ _ _ _ ?_ ?_ <;> (first | omega | (dsimp only; omega))) | (refine c_spec_l1Chance c hc _ _ ?_ ?_ <;> (first | omega | (dsimp only; omega))) | (refine c_spec_l1Word c hc _ ?_ ?_ <;> (first | omega | (dsimp only; omega)))); rfl))
      refine ask_intro ⟨by decide, by show (0 : Int) < (h.length : Int); omega⟩ ?_
      refine ask_intro (by show 0 < h.length; exact h5) ?_
      exact ⟨_, _, _, [], ⟨h.set 0 ⟨pk c (q + 1) [-1, 10], (h.getD 0 hit0).page, (h.getD 0 hit0).to, (h.getD 0 hit0).kinds⟩, q + 1 + 1, by rw [List.length_set]; omega, by omega, by omega, rfl, rfl, rfl⟩,
        chk_intro (by kernel_rfl) ⟨tellV_frz rfl rfl rfl (DLe.l (by rw [List.length_set]) (fun j hj => set_hitT h5 j)), tellHp_box rfl rfl ⟨DLe.refl _, rfl, trivial⟩ tellHp_nil⟩⟩
    refine bsplit_intro (fun h7 => ?_) (fun h7 => ?_)
    · repeat' (first | refine bsplit_true ?_ | refine bsplit_false ?_ | (refine .inr ⟨rfl, use_mut ⟨?_, ?_, ?_, ?_, ?_, ?_, ?_, ?_, ?_, ?_, ?_⟩⟩; rotate_left 6; exact rfl; exact rfl; (first | (refine c_spec_l1Next c hc _ _ ?_ ?_ <;> (first | omega | (dsimp only; omega))) | (refine pick3 c hc _ _ _ _ ?_ ?_ <;> (first | omega | (dsimp only; omega))) | (refine pick4 c hc _ _ _ _ _ ?_ ?_ <;> (first | omega | (dsimp only; omega))) | (refine pick2 c hc _ _ _ ?_ ?_ <;> (first | omega | (dsimp only; omega))) | (refine pick6 c hc _ _ _ _ _ _ _ ?_ ?_ <;> (first | omega | (dsimp only; omega))) | (refine pick7 c hc _ _ _ _ _ _ _ _ ?_ ?_ <;> (first | omega | (dsimp only; omega))) | (refine pick5 c hc _ _ _ _ _ _ ?_ ?_ <;> (first | omega | (dsimp only; omega))) | (refine c_spec_l1Chance c hc _ _ ?_ ?_ <;> (first | omega | (dsimp only; omega))) | (refine c_spec_l1Word c hc _ ?_ ?_ <;> (first | omega | (dsimp only; omega)))); rfl))
      refine ask_intro ⟨by decide, by show (0 : Int) < (h.length : Int); omega⟩ ?_
      refine ask_intro (by show 0 < h.length; exact h5) ?_
      exact ⟨_, _, _, [], ⟨h.set 0 ⟨(h.getD 0 hit0).tag, (h.getD 0 hit0).page, (h.getD 0 hit0).to, pk c (q + 1) [0, 8]⟩, q + 1 + 1, by rw [List.length_set]; omega, by omega, by omega, rfl, rfl, rfl⟩,
        chk_intro (by kernel_rfl) ⟨tellV_frz rfl rfl rfl (DLe.l (by rw [List.length_set]) (fun j hj => set_hitK h5 j)), tellHp_box rfl rfl ⟨DLe.refl _, rfl, trivial⟩ tellHp_nil⟩⟩
    refine bsplit_intro (fun h9 => ?_) (fun h9 => ?_)
    · repeat' (first | refine bsplit_true ?_ | refine bsplit_false ?_ | (refine .inr ⟨rfl, use_mut ⟨?_, ?_, ?_, ?_, ?_, ?_, ?_, ?_, ?_, ?_, ?_⟩⟩; rotate_left 6; exact rfl; exact rfl; (first | (refine c_spec_l1Next c hc _ _ ?_ ?_ <;> (first | omega | (dsimp only; omega))) | (refine pick3 c hc _ _ _ _ ?_ ?_ <;> (first | omega | (dsimp only; omega))) | (refine pick4 c hc _ _ _ _ _ ?_ ?_ <;> (first | omega | (dsimp only; omega))) | (refine pick2 c hc _ _ _ ?_ ?_ <;> (first | omega | (dsimp only; omega))) | (refine pick6 c hc _ _ _ _ _ _ _ ?_ ?_ <;> (first | omega | (dsimp only; omega))) | (refine pick7 c hc _ _ _ _ _ _ _ _ ?_ ?_ <;> (first | omega | (dsimp only; omega))) | (refine pick5 c hc _ _ _ _ _ _ ?_ ?_ <;> (first | omega | (dsimp only; omega))) | (refine c_spec_l1Chance c hc _ _ ?_ ?_ <;> (first | omega | (dsimp only; omega))) | (refine c_spec_l1Word c hc _ ?_ ?_ <;> (first | omega | (dsimp only; omega)))); rfl))
      refine ask_intro ⟨by decide, by show (0 : Int) < (h.length : Int); omega⟩ ?_
      refine ask_intro (by show 0 < h.length; exact h5) ?_
      refine ask_intro ⟨by show (h.length + 1) * 32 ≤ 140737488355328; omega, by show h.length + 1 ≤ 9223372036854775807; omega, one_hit (h.getD 0 hit0)⟩ ?_
      exact ⟨_, _, _, [], ⟨h ++ [h.getD 0 hit0], q + 1, by simp; omega, by omega, by omega, rfl, rfl, rfl⟩,
        chk_intro (by kernel_rfl) ⟨tellV_frz rfl rfl rfl (DLe.l (by simp) (fun j hj => upto_hit h (h.getD 0 hit0) j hj)), tellHp_box rfl rfl ⟨DLe.refl _, rfl, trivial⟩ tellHp_nil⟩⟩
    refine bsplit_intro (fun h10 => ?_) (fun h10 => ?_)
    · repeat' (first | refine bsplit_true ?_ | refine bsplit_false ?_ | (refine .inr ⟨rfl, use_mut ⟨?_, ?_, ?_, ?_, ?_, ?_, ?_, ?_, ?_, ?_, ?_⟩⟩; rotate_left 6; exact rfl; exact rfl; (first | (refine c_spec_l1Next c hc _ _ ?_ ?_ <;> (first | omega | (dsimp only; omega))) | (refine pick3 c hc _ _ _ _ ?_ ?_ <;> (first | omega | (dsimp only; omega))) | (refine pick4 c hc _ _ _ _ _ ?_ ?_ <;> (first | omega | (dsimp only; omega))) | (refine pick2 c hc _ _ _ ?_ ?_ <;> (first | omega | (dsimp only; omega))) | (refine pick6 c hc _ _ _ _ _ _ _ ?_ ?_ <;> (first | omega | (dsimp only; omega))) | (refine pick7 c hc _ _ _ _ _ _ _ _ ?_ ?_ <;> (first | omega | (dsimp only; omega))) | (refine pick5 c hc _ _ _ _ _ _ ?_ ?_ <;> (first | omega | (dsimp only; omega))) | (refine c_spec_l1Chance c hc _ _ ?_ ?_ <;> (first | omega | (dsimp only; omega))) | (refine c_spec_l1Word c hc _ ?_ ?_ <;> (first | omega | (dsimp only; omega)))); rfl))
      refine ask_intro ⟨rfl, by decide, by decide, by decide⟩ ?_
      refine ⟨_, _, _, [], ⟨List.replicate 13 hit0, q + 1, by simp, by omega, by omega, rfl, rfl, rfl⟩,
        chk_intro (by kernel_rfl) ⟨tellV_frz rfl rfl rfl (DLe.l (by simp) (fun j hj => ?_)), tellHp_box rfl rfl ⟨DLe.refl _, rfl, trivial⟩ tellHp_nil⟩⟩
      have e : (List.replicate 13 hit0).getD j hit0 = hit0 := by simp only [List.getD, List.getElem?_replicate]; split <;> rfl
      show _ = hitD ((List.replicate 13 hit0).getD j hit0)
      rw [e]; rfl
    · exact ⟨_, _, _, [], ⟨h, q + 1, by omega, by omega, by omega, rfl, rfl, rfl⟩,
        chk_intro (by kernel_rfl) ⟨tellV_frz rfl rfl rfl (DLe.refl _), tellHp_box rfl rfl ⟨DLe.refl _, rfl, trivial⟩ tellHp_nil⟩⟩
theorem c_spec_DrawWalkCached (c : List Int) (hc : okCode c) : FnS Try.prog 53 [.d (bytesD c)] (fun r => ∃ (h : List HitM) (tag : Int) (l : List PageM) (a kind : Int), h.length ≤ 14 ∧ l.length ≤ 8 ∧ r = .tup [.one (.sh (hits h)), .one (.v (.int .i64 tag)), .one (.sh (Go.Proofs.Ytojaakpnpdnbhaa.L.pages l)), .one (.v (.int .i64 a)), .one (.v (.int .i64 kind))]) := by
  refine fnS_fn_of lv53 Try.func53 rfl rfl (by kernel_rfl) rfl ?_
  refine .inr ⟨rfl, use_mut ⟨_, _, _, _, _, _, rfl, rfl, c_spec_l1Source c, rfl, ?_⟩⟩
  refine .inr ⟨rfl, use_mutS ⟨_, _, _, _, rfl, rfl, c_spec_l4Bent c hc 0 24 (by omega) (by omega) (by omega), rfl, ?_⟩⟩
  rintro _ _ _ ⟨l, q, hl1, hl2, hq1, hq2, rfl, rfl, rfl⟩
  refine ⟨rfl, ?_⟩
  refine .inr ⟨rfl, use_mutS ⟨_, _, _, _, rfl, rfl, c_spec_l5Cache c hc q l (by omega) (by omega) (by omega), rfl, ?_⟩⟩
  rintro _ _ _ ⟨h, q2, hl3, hq3, hq4, rfl, rfl, rfl⟩
  refine ⟨rfl, ?_⟩
  refine .inr ⟨rfl, use_mutS ⟨_, _, _, _, rfl, rfl, c_spec_l4Place c hc q2 (by omega) (by omega), rfl, ?_⟩⟩
  rintro _ _ _ ⟨a, rfl, rfl, rfl⟩
  refine ⟨rfl, ?_⟩
  repeat' (first | refine bsplit_true ?_ | refine bsplit_false ?_ | (refine .inr ⟨rfl, use_mut ⟨?_, ?_, ?_, ?_, ?_, ?_, ?_, ?_, ?_, ?_, ?_⟩⟩; rotate_left 6; exact rfl; exact rfl; (first | (refine c_spec_l1Next c hc _ _ ?_ ?_ <;> (first | omega | (dsimp only; omega))) | (refine pick3 c hc _ _ _ _ ?_ ?_ <;> (first | omega | (dsimp only; omega))) | (refine pick4 c hc _ _ _ _ _ ?_ ?_ <;> (first | omega | (dsimp only; omega))) | (refine pick2 c hc _ _ _ ?_ ?_ <;> (first | omega | (dsimp only; omega))) | (refine pick6 c hc _ _ _ _ _ _ _ ?_ ?_ <;> (first | omega | (dsimp only; omega))) | (refine pick7 c hc _ _ _ _ _ _ _ _ ?_ ?_ <;> (first | omega | (dsimp only; omega))) | (refine pick5 c hc _ _ _ _ _ _ ?_ ?_ <;> (first | omega | (dsimp only; omega))) | (refine c_spec_l1Chance c hc _ _ ?_ ?_ <;> (first | omega | (dsimp only; omega))) | (refine c_spec_l1Word c hc _ ?_ ?_ <;> (first | omega | (dsimp only; omega)))); rfl))
  refine .inr ⟨rfl, use_mutS ⟨_, _, _, _, rfl, rfl, c_spec_l4DrawKind c hc (q2 + 4 + 1) (by omega) (by omega), rfl, ?_⟩⟩
  rintro _ _ _ ⟨k, q5, hq5, hq6, rfl, rfl, rfl⟩
  refine ⟨rfl, ?_⟩
  exact ⟨_, ⟨h, _, l, a, k, by omega, by omega, rfl⟩, ⟨DLe.refl _, rfl, DLe.refl _, rfl, rfl, trivial⟩, rfl⟩
end Go.Proofs.Ytojaakpnpdnbhaa.L

/- What the law functions compute over results that bear pages: contracts. -/
set_option linter.unusedVariables false
set_option linter.unusedSimpArgs false
set_option maxRecDepth 100000
namespace Go.Proofs.Ytojaakpnpdnbhaa.L
open Go.RowKit
abbrev pagesM (l : List PageM) (k : Int) : D := .l l.length (pageMk k)
abbrev rowPM (l : List PageM) (k : Int) : Ent := .row 133 2 l.length (pageMk k)
theorem c_laws_heldPageS (l : List PageM) (k : Int) (hl : l.length ≤ 1099511627776) (hk : 0 ≤ k) (hk2 : k ≤ 1099511627776) : FnOK Try.prog 98 [.d (pagesM l k), di k] (ri (k + 2 * l.length)) := by
  refine fn_of lv98 Try.func98 rfl rfl (by kernel_rfl) rfl ?_
  refine ⟨{ i : Nat // i ≤ l.length }, fun i => ⟨frL [(0, .d (pagesM l k)), (1, di (k + 2 * (i.1 : Int))), (5, di i.1)], hpL [], 0, 0⟩, fun i => l.length - i.1, ⟨0, by omega⟩,
    le_of [] rfl rfl rfl rfl trivial (tellFr_d rfl (DLe.refl _) (tellFr_v rfl (congrArg (Value.int .i64) (show k = k + 2 * ((0 : Nat) : Int) by omega)) (tellFr_v rfl rfl trivial))), ?_⟩
  rintro ⟨i, hi⟩
  refine bsplit_intro (fun h => ?_) (fun h => ?_)
  · have h : i < l.length := by simp at h; exact h
    have w1 : IntKind.i64.wrap (k + 2 * (i : Int) + 1) = k + 2 * (i : Int) + 1 := wrap_i64 _ (by omega) (by omega)
    have w2 : IntKind.i64.wrap (k + 2 * (i : Int) + 1 + 1) = k + 2 * ((i + 1 : Nat) : Int) := by rw [wrap_i64 _ (by omega) (by omega)]; omega
    refine ask_intro ⟨by omega, by simp; omega, rfl⟩ ?_
    refine bsplit_of_false (show (k + 2 * (i : Int) != k + 2 * (i : Int)) = false by simp) ?_
    refine ask_intro ⟨by omega, by simp; omega, rfl⟩ ?_
    refine bsplit_of_false (show (k + 2 * (i : Int) + 1 != IntKind.i64.wrap (k + 2 * (i : Int) + 1)) = false by rw [w1]; simp) ?_
    exact ⟨⟨i + 1, by omega⟩, le_of [] rfl rfl rfl rfl trivial (tellFr_d rfl (DLe.refl _) (tellFr_v rfl (congrArg (Value.int .i64) (by rw [w1, w2])) (tellFr_v rfl (congrArg (Value.int .i64) (wrap_i64 (i + 1) (by omega) (by omega) : IntKind.i64.wrap ((i : Int) + 1) = ((i + 1 : Nat) : Int))) trivial))), by show l.length - (i + 1) < l.length - i; omega⟩
  · simp at h
    have e : i = l.length := by omega
    subst e
    exact ⟨⟨rfl, trivial⟩, rfl⟩
theorem c_laws_eqPagesResult (p q : Int × List PageM) (hs : p.2.length ≤ 9223372036854775807) : FnOK Try.prog 34 [pgsLV p, pgsLV q] (rb (decide (p = q))) := by
  refine fn_of lv34 Try.func34 rfl rfl (by kernel_rfl) rfl ?_
  repeat' (first | refine bsplit_true ?_ | refine bsplit_false ?_ | refine .inl ⟨_, _, rfl, c_laws_eqPageS p.2 q.2 hs, rfl, ?_⟩ | refine bsplit_intro (fun h => ?_) (fun h => ?_))
  all_goals refine ⟨⟨congrArg Value.bool ?_, trivial⟩, rfl⟩
  all_goals (obtain ⟨a1, a2⟩ := p; obtain ⟨b1, b2⟩ := q; simp_all)
theorem c_laws_markPagesResult (p : Int × List PageM) (k : Int) (hf : p.2.length ≤ 1099511627776) (hk : 0 ≤ k) (hk2 : k ≤ 1099511627776) : MutOK Try.prog 35 [.agg [di p.1, .row 0], di k] 1 [(0, rowP p.2)] (di (k + 2 * p.2.length)) 1 [(0, rowPM p.2 k)] := by
  refine mut_fn_of lv35 Try.func35 rfl rfl (by kernel_rfl) rfl [] ?_
  refine .inr ⟨rfl, use_mut ⟨_, _, _, _, _, _, rfl, rfl, c_laws_markPageS p.2 k hf hk hk2, rfl, ?_⟩⟩
  exact chk_intro (by kernel_rfl) ⟨tellV_v rfl rfl, tellHp_row rfl rfl rfl (fun j hj => rfl) tellHp_nil⟩
theorem c_laws_heldPagesResult (p : Int × List PageM) (k : Int) (hf : p.2.length ≤ 1099511627776) (hk : 0 ≤ k) (hk2 : k ≤ 1099511627776) : FnOK Try.prog 36 [.agg [di p.1, .d (pagesM p.2 k)], di k] (ri (k + 2 * p.2.length)) := by
  refine fn_of lv36 Try.func36 rfl rfl (by kernel_rfl) rfl ?_
  refine .inl ⟨_, _, rfl, c_laws_heldPageS p.2 k hf hk hk2, rfl, ?_⟩
  refine bsplit_of_false (decide_eq_false (show ¬ k + 2 * (p.2.length : Int) < 0 by omega)) ?_
  exact ⟨⟨rfl, trivial⟩, rfl⟩
end Go.Proofs.Ytojaakpnpdnbhaa.L

/- The law function over a machine that goes back from a trap answers true. -/
set_option linter.unusedVariables false
set_option linter.unusedSimpArgs false
set_option maxRecDepth 100000
namespace Go.Proofs.Ytojaakpnpdnbhaa.L
open Go.RowKit
theorem backHart_few (m : HartM) (hf : m.few) (hs : m.small) : (backHart m).2.few ∧ (backHart m).2.small := by
  unfold backHart
  split
  · exact ⟨⟨hf.regs, by simpa [backM] using hf.csr, hf.inp, hf.out⟩, ⟨hs.regs, by simpa [backM] using hs.csr, hs.inp, hs.out⟩⟩
  · exact hartZ_few
end Go.Proofs.Ytojaakpnpdnbhaa.L

/- The law functions over a machine that is fed answer true. -/
set_option linter.unusedVariables false
set_option linter.unusedSimpArgs false
set_option maxRecDepth 100000
namespace Go.Proofs.Ytojaakpnpdnbhaa.L
open Go.RowKit
theorem hK_b (m : HartM) (k : Int) (hf : m.few) (h1 : 0 ≤ k) (h2 : k ≤ 1048576) : 0 ≤ hK4 m k ∧ hK4 m k ≤ k + 4194304 := by
  obtain ⟨b1, b2, b3, b4⟩ := hf
  unfold hK4 hK3 hK2 hK1
  omega
theorem ints_b (l : List Int) (k : Int) (hf : l.length ≤ 1048576) (h1 : 0 ≤ k) (h2 : k ≤ 1099511627776) : 0 ≤ k + l.length ∧ k + l.length ≤ k + 1048576 := by omega
theorem feedHart_few (m : HartM) (hf : m.few) (hs : m.small) (l : List Int) (hl : l.length ≤ 1048576) : (feedHart m l).2.few ∧ (feedHart m l).2.small := by
  unfold feedHart
  split
  · cases h1 : (!l.all isW)
    · cases h2 : decide ((m.inp.length : Int) + l.length > 40)
      · have h2 : ¬ ((m.inp.length : Int) + l.length > 40) := by simpa using h2
        have e : (m.inp ++ l).length = m.inp.length + l.length := by simp
        exact ⟨⟨hf.regs, hf.csr, by show (m.inp ++ l).length ≤ _; omega, hf.out⟩, ⟨hs.regs, hs.csr, by show (m.inp ++ l).length * 8 ≤ _; omega, hs.out⟩⟩
      · exact hartZ_few
    · exact hartZ_few
  · exact hartZ_few
end Go.Proofs.Ytojaakpnpdnbhaa.L

/- The law functions over a guest's own view answer true. -/
set_option linter.unusedVariables false
set_option linter.unusedSimpArgs false
set_option maxRecDepth 100000
namespace Go.Proofs.Ytojaakpnpdnbhaa.L
open Go.RowKit
abbrev okPages (l : List PageM) : Prop := l.length * 16 ≤ reachBytes ∧ ∀ x ∈ l, ok64 x.to ∧ ok64 x.kinds
theorem szq_of {q : Int} {n : Nat} (h : decide ((if q - (n : Int) < 0 then -1 else q - (n : Int)) < 0) = false) : (n : Int) ≤ q := by
  have := of_decide_eq_false h
  split at this <;> omega
theorem len2_b {α : Type} (l : List α) (k : Int) (hf : l.length ≤ 1048576) (h1 : 0 ≤ k) (h2 : k ≤ 1073741824) : 0 ≤ k + 2 * (l.length : Int) ∧ k + 2 * (l.length : Int) ≤ k + 2097152 := by omega
end Go.Proofs.Ytojaakpnpdnbhaa.L

/- What the law functions compute over answers with a cache: contracts; how a cache is read. -/
set_option linter.unusedVariables false
set_option linter.unusedSimpArgs false
set_option maxRecDepth 100000
namespace Go.Proofs.Ytojaakpnpdnbhaa.L
open Go.RowKit Go.ChangeShapes Go.WideShapes Go.ChangeAt
theorem reads_Hit : ReadsT Try.prog 165 4 HitM hitD (fun p => ok64 p.tag ∧ ok64 p.page ∧ ok64 p.to ∧ ok64 p.kinds) :=
  (ReadsT.struct (ok := _) Try.underlying165 (by kernel_rfl) (ReadsL.cons reads_int64 (.cons reads_int64 (.cons reads_int64 (.cons reads_int64 (.nil 4)))))).map (fun m => ⟨m.1, m.2.1, m.2.2.1, m.2.2.2.1⟩) (fun m h => ⟨⟨h.1, h.2.1, h.2.2.1, h.2.2.2.1⟩, rfl⟩)
theorem reads_hits : ReadsT Try.prog 96 1 (List HitM) (fun l => [hits l]) (fun l => l.length * 32 ≤ reachBytes ∧ ∀ p ∈ l, ok64 p.tag ∧ ok64 p.page ∧ ok64 p.to ∧ ok64 p.kinds) := ReadsT.slice reads_Hit Try.underlying96 (by kernel_rfl) (by decide) ⟨0, 0, 0, 0⟩ (by kernel_rfl)
abbrev okHits (l : List HitM) : Prop := l.length * 32 ≤ reachBytes ∧ ∀ p ∈ l, ok64 p.tag ∧ ok64 p.page ∧ ok64 p.to ∧ ok64 p.kinds
theorem len4_b {α : Type} (l : List α) (k : Int) (hf : l.length ≤ 1048576) (h1 : 0 ≤ k) (h2 : k ≤ 1073741824) : 0 ≤ k + 4 * (l.length : Int) ∧ k + 4 * (l.length : Int) ≤ k + 4194304 := by omega
theorem c_laws_eqCacheResult (p q : CacM) (hl : p.cac.length ≤ 9223372036854775807) : FnOK Try.prog 65 [cacLV p, cacLV q] (rb (decide (p = q))) := by
  refine fn_of lv65 Try.func65 rfl rfl (by kernel_rfl) rfl ?_
  repeat' (first | refine bsplit_true ?_ | refine bsplit_false ?_ | refine .inl ⟨_, _, rfl, c_laws_eqHitS p.cac q.cac hl, rfl, ?_⟩ | refine bsplit_intro (fun h => ?_) (fun h => ?_))
  all_goals refine ⟨⟨congrArg Value.bool ?_, trivial⟩, rfl⟩
  all_goals (obtain ⟨a1, a2, a3, a4⟩ := p; obtain ⟨b1, b2, b3, b4⟩ := q; simp_all)
theorem c_laws_markCacheResult (p : CacM) (k : Int) (hl : p.cac.length ≤ 1048576) (hk : 0 ≤ k) (hk2 : k ≤ 1073741824) : MutOK Try.prog 70 [.agg [di p.code, di p.val, dv (.bool p.hit), .row 0], di k] 1 [(0, rowHit p.cac)] (di (k + 4 * (p.cac.length : Int))) 1 [(0, rowHM p.cac k)] := by
  refine mut_fn_of lv70 Try.func70 rfl rfl (by kernel_rfl) rfl [] ?_
  refine .inr ⟨rfl, use_mut ⟨_, _, _, _, _, _, rfl, rfl, c_laws_markHitS p.cac k (by omega) hk (by omega), rfl, ?_⟩⟩
  exact chk_intro (by kernel_rfl) ⟨tellV_v rfl rfl, tellHp_row rfl rfl rfl (fun j hj => rfl) tellHp_nil⟩
theorem c_laws_heldCacheResult (p : CacM) (k : Int) (hl : p.cac.length ≤ 1048576) (hk : 0 ≤ k) (hk2 : k ≤ 1073741824) : FnOK Try.prog 71 [.agg [di p.code, di p.val, dv (.bool p.hit), .d (hitsM p.cac k)], di k] (ri (k + 4 * (p.cac.length : Int))) := by
  refine fn_of lv71 Try.func71 rfl rfl (by kernel_rfl) rfl ?_
  refine .inl ⟨_, _, rfl, c_laws_heldHitS p.cac k (by omega) hk (by omega), rfl, ?_⟩
  refine bsplit_of_false (decide_eq_false (show ¬ k + 4 * (p.cac.length : Int) < 0 by omega)) ?_
  exact ⟨⟨rfl, trivial⟩, rfl⟩
theorem walkC_few (c : List HitM) (tag : Int) (l : List PageM) (a kind : Int) : (walkC c tag l a kind).cac.length ≤ 1048576 := by
  unfold walkC
  split
  · rename_i h
    have h1 := cacheF_len (askedW_ok h).1
    have h2 := lessC_len c ⟨tag, pgOf a, (pageAt l a).to, (pageAt l a).kinds⟩
    have h3 : (walkL c tag l a kind).cac.length ≤ 1048576 := by
      unfold walkL
      split
      · simp
      · show (fillC c _).length ≤ _
        unfold fillC
        simp only [List.length_append, List.length_cons, List.length_nil]
        omega
    unfold walkB
    cases inR a 0 63 with
    | false => exact h3
    | true =>
      rw [cond_true]
      split
      · cases andI (c.getD (findH c tag (pgOf a)).toNat hit0).kinds kind == 0 with
        | true => simp
        | false => show c.length ≤ _; omega
      · exact h3
  · simp
end Go.Proofs.Ytojaakpnpdnbhaa.L

/- Codes of bytes, as arguments read as data. -/
set_option linter.unusedVariables false
set_option linter.unusedSimpArgs false
set_option maxRecDepth 100000
namespace Go.Proofs.Ytojaakpnpdnbhaa.L
open Go.RowKit Go.ChangeShapes Go.WideShapes Go.ChangeAt
abbrev okByte (n : Int) : Prop := (Lit.int .u8 n).wf = true
theorem okByte_le {n : Int} (h : okByte n) : 0 ≤ n ∧ n ≤ 255 := by
  have h' : IntKind.u8.min ≤ n ∧ n ≤ IntKind.u8.max := by simpa [okByte, Lit.wf] using h
  have e : IntKind.u8.min = 0 := by decide
  have e2 : IntKind.u8.max = 255 := by decide
  rw [e, e2] at h'
  exact h'
abbrev okBytes (l : List Int) : Prop := l.length * 1 ≤ reachBytes ∧ ∀ x ∈ l, okByte x
theorem okBytes.code {l : List Int} (h : okBytes l) (hb : decide ((l.length : Int) > 1048576) = false) : okCode l := ⟨by simp at hb; omega, fun x hx => okByte_le (h.2 x hx)⟩
theorem reads_uint8 : ReadsT Try.prog 5 1 Int (fun n => [.v (.int .u8 n)]) okByte := ReadsT.int Try.underlying5 (by kernel_rfl)
theorem reads_bytes : ReadsT Try.prog 76 1 (List Int) (fun l => [bytesD l]) okBytes := ReadsT.slice reads_uint8 Try.underlying76 (by kernel_rfl) (by decide) 0 (by kernel_rfl)
end Go.Proofs.Ytojaakpnpdnbhaa.L

/- The law function over caches answers true. -/
set_option linter.unusedVariables false
set_option linter.unusedSimpArgs false
set_option maxRecDepth 100000
namespace Go.Proofs.Ytojaakpnpdnbhaa.L
open Go.RowKit Go.ChangeShapes Go.WideShapes Go.ChangeAt
theorem flushM_few (c : List HitM) (tag : Int) (hc : c.length ≤ 14) : (flushM c tag).cac.length ≤ 14 := by
  unfold flushM
  split
  · cases inR tag 0 9 with
    | true => exact Nat.le_trans (List.length_filter_le _ _) hc
    | false => simp
  · simp
set_option maxHeartbeats 4000000 in
theorem c_laws_FnCaches (c : List Int) (ho : okBytes c) : FnOK Try.prog 9 [.d (bytesD c)] (rb true) := by
  have hrb := reach_eq
  have hlen : c.length * 1 ≤ 140737488351232 := by have := ho.1; omega
  refine fn_of lv9 Try.func9 rfl rfl (by kernel_rfl) rfl ?_
  refine .inl ⟨_, _, rfl, c_laws_lwBig c (by omega), rfl, ?_⟩
  refine bsplit_intro (fun h => ?_) (fun h => ?_)
  · exact ⟨⟨rfl, trivial⟩, rfl⟩
  have hc := ho.code h
  refine .inr ⟨rfl, use_fn ⟨_, _, rfl, c_spec_DrawWalkCached c hc, ?_⟩⟩
  rintro _ ⟨h, tag, l, a, kind, hl1, hl2, rfl⟩
  refine ⟨rfl, ?_⟩
  have c1 := c_impl_WalkCached h (by omega) tag l (by omega) a kind
  have c2 := c_impl_FlushCache h (by omega) tag
  have c3 := c_spec_PagesFault l 24 (by omega)
  have hff := flushM_few h tag hl1
  have c4 := c_impl_CacheFits (flushM h tag).cac (by omega) tag l (by omega)
  have l1 := law_flush h tag l
  obtain ⟨f, hf⟩ : ∃ f, f = flushM h tag := ⟨_, rfl⟩
  rw [← hf] at c2 c4 l1 hff
  have c5 := c_spec_CacheFits h (by omega) tag l (by omega)
  have c5i := c_impl_CacheFits h (by omega) tag l (by omega)
  have c6 := c_spec_WalkCached h (by omega) tag l (by omega) a kind
  have c7 := c_impl_WalkPages l (by omega) a kind
  have hwf := walkC_few h tag l a kind
  have l2 := law_walk h tag l a kind
  obtain ⟨w, hw⟩ : ∃ w, w = walkC h tag l a kind := ⟨_, rfl⟩
  rw [← hw] at c1 c6 hwf l2
  obtain ⟨r, hr⟩ : ∃ r, r = (if pagesFault l 24 = 0 then (bif kindOk kind then walkI l a kind else (3, 0)) else (pagesFault l 24, 0)) := ⟨_, rfl⟩
  rw [← hr] at c7 l2
  have c8 := c_impl_WalkCached w.cac hwf tag l (by omega) a kind
  obtain ⟨w2, hw2⟩ : ∃ w2, w2 = walkC w.cac tag l a kind := ⟨_, rfl⟩
  rw [← hw2] at c8 l2
  have c9 := c_impl_CacheFits w.cac hwf tag l (by omega)
  have c10 := c_impl_CacheFault w.cac (by omega)
  have l3 : fitsM w.cac tag l = true → cacheF w.cac = 0 := fun h => cacheF_iff.2 (fits_iff.1 h).1
  refine .inl ⟨_, _, rfl, c1, rfl, ?_⟩
  refine .inl ⟨_, _, rfl, c2, rfl, ?_⟩
  obtain ⟨b, hb⟩ : ∃ b, b = fitsM h tag l := ⟨_, rfl⟩
  rw [← hb] at c5 c5i l2
  obtain ⟨fc, fv, fh, fl⟩ := f
  by_cases hfc : fc = 0
  · subst hfc
    by_cases hpf : pagesFault l 24 = 0
    · rw [l1 rfl hpf] at c4
      rw [hpf] at c3
      repeat' (first | refine bsplit_true ?_ | refine bsplit_false ?_)
      refine .inl ⟨_, _, rfl, c3, rfl, ?_⟩
      repeat' (first | refine bsplit_true ?_ | refine bsplit_false ?_)
      refine .inl ⟨_, _, rfl, c4, rfl, ?_⟩
      repeat' (first | refine bsplit_true ?_ | refine bsplit_false ?_)
      refine .inl ⟨_, _, rfl, c5, rfl, ?_⟩
      refine bsplit_intro (fun hb1 => ?_) (fun hb1 => ?_)
      · have hb1 : b = false := by simpa using hb1
        refine .inl ⟨_, _, rfl, c6, rfl, ?_⟩
        refine bsplit_of_true (show (w.code == w.code) = true by simp) ?_
        repeat' (first | refine bsplit_true ?_ | refine bsplit_false ?_)
        refine .inl ⟨_, _, rfl, c5i, rfl, ?_⟩
        repeat' (first | refine bsplit_true ?_ | refine bsplit_false ?_)
        refine chk_intro (by kernel_rfl) ?_
        exact ⟨⟨congrArg Value.bool (show (!b) = true by rw [hb1]; rfl), trivial⟩, rfl⟩
      have hb1 : b = true := by simpa using hb1
      obtain ⟨l4, l5⟩ := l2 hb1
      refine .inl ⟨_, _, rfl, c7, rfl, ?_⟩
      refine bsplit_intro (fun h1 => ?_) (fun h1 => ?_)
      · have l4 := l4 (by simpa using h1)
        refine bsplit_intro (fun h2 => ?_) (fun h2 => ?_)
        · repeat' (first | refine bsplit_true ?_ | refine bsplit_false ?_)
          exact ⟨⟨rfl, trivial⟩, rfl⟩
        · repeat' (first | refine bsplit_true ?_ | refine bsplit_false ?_)
          refine bsplit_intro (fun h3 => ?_) (fun h3 => ?_)
          · repeat' (first | refine bsplit_true ?_ | refine bsplit_false ?_)
            exact ⟨⟨rfl, trivial⟩, rfl⟩
          · repeat' (first | refine bsplit_true ?_ | refine bsplit_false ?_)
            exact ⟨⟨congrArg Value.bool (show decide (tag > 9) = true by simp at h2 h3; simp; omega), trivial⟩, rfl⟩
      · obtain ⟨e1, e2, e3, e4⟩ := l5 (by simpa using h1)

        rw [e2] at c9
        rw [l3 e2] at c10
        subst e1
        refine .inl ⟨_, _, rfl, c8, rfl, ?_⟩
        repeat' (first | refine bsplit_true ?_ | refine bsplit_false ?_)
        refine bsplit_of_true (show (w.val == w.val) = true by simp) ?_
        repeat' (first | refine bsplit_true ?_ | refine bsplit_false ?_)
        refine .inl ⟨_, _, rfl, c9, rfl, ?_⟩
        repeat' (first | refine bsplit_true ?_ | refine bsplit_false ?_)
        refine bsplit_of_true e3 ?_
        repeat' (first | refine bsplit_true ?_ | refine bsplit_false ?_)
        refine bsplit_of_true (show (w2.val == w.val) = true by simpa using e4) ?_
        repeat' (first | refine bsplit_true ?_ | refine bsplit_false ?_)
        refine .inl ⟨_, _, rfl, c10, rfl, ?_⟩
        repeat' (first | refine bsplit_true ?_ | refine bsplit_false ?_)
        exact ⟨⟨rfl, trivial⟩, rfl⟩
    · generalize pagesFault l 24 = e at *
      have hne : (e == 0) = false := by simpa using hpf
      repeat' (first | refine bsplit_true ?_ | refine bsplit_false ?_)
      refine .inl ⟨_, _, rfl, c3, rfl, ?_⟩
      repeat' (first | refine bsplit_true ?_ | refine bsplit_false ?_ | refine bsplit_of_false hne ?_)
      refine .inl ⟨_, _, rfl, c5, rfl, ?_⟩
      refine bsplit_intro (fun hb1 => ?_) (fun hb1 => ?_)
      · have hb1 : b = false := by simpa using hb1
        refine .inl ⟨_, _, rfl, c6, rfl, ?_⟩
        refine bsplit_of_true (show (w.code == w.code) = true by simp) ?_
        repeat' (first | refine bsplit_true ?_ | refine bsplit_false ?_)
        refine .inl ⟨_, _, rfl, c5i, rfl, ?_⟩
        repeat' (first | refine bsplit_true ?_ | refine bsplit_false ?_)
        refine chk_intro (by kernel_rfl) ?_
        exact ⟨⟨congrArg Value.bool (show (!b) = true by rw [hb1]; rfl), trivial⟩, rfl⟩
      have hb1 : b = true := by simpa using hb1
      obtain ⟨l4, l5⟩ := l2 hb1
      refine .inl ⟨_, _, rfl, c7, rfl, ?_⟩
      refine bsplit_intro (fun h1 => ?_) (fun h1 => ?_)
      · have l4 := l4 (by simpa using h1)
        refine bsplit_intro (fun h2 => ?_) (fun h2 => ?_)
        · repeat' (first | refine bsplit_true ?_ | refine bsplit_false ?_)
          exact ⟨⟨rfl, trivial⟩, rfl⟩
        · repeat' (first | refine bsplit_true ?_ | refine bsplit_false ?_)
          refine bsplit_intro (fun h3 => ?_) (fun h3 => ?_)
          · repeat' (first | refine bsplit_true ?_ | refine bsplit_false ?_)
            exact ⟨⟨rfl, trivial⟩, rfl⟩
          · repeat' (first | refine bsplit_true ?_ | refine bsplit_false ?_)
            exact ⟨⟨congrArg Value.bool (show decide (tag > 9) = true by simp at h2 h3; simp; omega), trivial⟩, rfl⟩
      · obtain ⟨e1, e2, e3, e4⟩ := l5 (by simpa using h1)

        rw [e2] at c9
        rw [l3 e2] at c10
        subst e1
        refine .inl ⟨_, _, rfl, c8, rfl, ?_⟩
        repeat' (first | refine bsplit_true ?_ | refine bsplit_false ?_)
        refine bsplit_of_true (show (w.val == w.val) = true by simp) ?_
        repeat' (first | refine bsplit_true ?_ | refine bsplit_false ?_)
        refine .inl ⟨_, _, rfl, c9, rfl, ?_⟩
        repeat' (first | refine bsplit_true ?_ | refine bsplit_false ?_)
        refine bsplit_of_true e3 ?_
        repeat' (first | refine bsplit_true ?_ | refine bsplit_false ?_)
        refine bsplit_of_true (show (w2.val == w.val) = true by simpa using e4) ?_
        repeat' (first | refine bsplit_true ?_ | refine bsplit_false ?_)
        refine .inl ⟨_, _, rfl, c10, rfl, ?_⟩
        repeat' (first | refine bsplit_true ?_ | refine bsplit_false ?_)
        exact ⟨⟨rfl, trivial⟩, rfl⟩
  · have hne : (fc == 0) = false := by simpa using hfc
    repeat' (first | refine bsplit_true ?_ | refine bsplit_false ?_ | refine bsplit_of_false hne ?_)
    refine .inl ⟨_, _, rfl, c5, rfl, ?_⟩
    refine bsplit_intro (fun hb1 => ?_) (fun hb1 => ?_)
    · have hb1 : b = false := by simpa using hb1
      refine .inl ⟨_, _, rfl, c6, rfl, ?_⟩
      refine bsplit_of_true (show (w.code == w.code) = true by simp) ?_
      repeat' (first | refine bsplit_true ?_ | refine bsplit_false ?_)
      refine .inl ⟨_, _, rfl, c5i, rfl, ?_⟩
      repeat' (first | refine bsplit_true ?_ | refine bsplit_false ?_)
      refine chk_intro (by kernel_rfl) ?_
      exact ⟨⟨congrArg Value.bool (show (!b) = true by rw [hb1]; rfl), trivial⟩, rfl⟩
    have hb1 : b = true := by simpa using hb1
    obtain ⟨l4, l5⟩ := l2 hb1
    refine .inl ⟨_, _, rfl, c7, rfl, ?_⟩
    refine bsplit_intro (fun h1 => ?_) (fun h1 => ?_)
    · have l4 := l4 (by simpa using h1)
      refine bsplit_intro (fun h2 => ?_) (fun h2 => ?_)
      · repeat' (first | refine bsplit_true ?_ | refine bsplit_false ?_)
        exact ⟨⟨rfl, trivial⟩, rfl⟩
      · repeat' (first | refine bsplit_true ?_ | refine bsplit_false ?_)
        refine bsplit_intro (fun h3 => ?_) (fun h3 => ?_)
        · repeat' (first | refine bsplit_true ?_ | refine bsplit_false ?_)
          exact ⟨⟨rfl, trivial⟩, rfl⟩
        · repeat' (first | refine bsplit_true ?_ | refine bsplit_false ?_)
          exact ⟨⟨congrArg Value.bool (show decide (tag > 9) = true by simp at h2 h3; simp; omega), trivial⟩, rfl⟩
    · obtain ⟨e1, e2, e3, e4⟩ := l5 (by simpa using h1)

      rw [e2] at c9
      rw [l3 e2] at c10
      subst e1
      refine .inl ⟨_, _, rfl, c8, rfl, ?_⟩
      repeat' (first | refine bsplit_true ?_ | refine bsplit_false ?_)
      refine bsplit_of_true (show (w.val == w.val) = true by simp) ?_
      repeat' (first | refine bsplit_true ?_ | refine bsplit_false ?_)
      refine .inl ⟨_, _, rfl, c9, rfl, ?_⟩
      repeat' (first | refine bsplit_true ?_ | refine bsplit_false ?_)
      refine bsplit_of_true e3 ?_
      repeat' (first | refine bsplit_true ?_ | refine bsplit_false ?_)
      refine bsplit_of_true (show (w2.val == w.val) = true by simpa using e4) ?_
      repeat' (first | refine bsplit_true ?_ | refine bsplit_false ?_)
      refine .inl ⟨_, _, rfl, c10, rfl, ?_⟩
      repeat' (first | refine bsplit_true ?_ | refine bsplit_false ?_)
      exact ⟨⟨rfl, trivial⟩, rfl⟩
end Go.Proofs.Ytojaakpnpdnbhaa.L

/- The law FnCaches answers true at every input that its statement lets in. -/
set_option linter.unusedVariables false
set_option maxRecDepth 100000
namespace Go.Proofs.Ytojaakpnpdnbhaa.L.FnCaches
open Go.RowKit Go.ChangeShapes Go.WideShapes Go.ChangeAt
theorem lifted (os : Os) (started : os.Started) (H : Type) (enc : TypeId × Value → H) :
    ReturnsInHanded {} Try.checked os 9 .any (Rows.fnCachesSpec.pre6 enc Try.prog Try.f9 Rows.fnCachesRow.domain false) (Rows.fnCachesSpec.post enc Try.prog Try.f9 false true false false) := by
  refine returnsInHanded_of_change_sized (C := Try.checked) own started (by kernel_rfl) Try.func9
    (ChangeSpec.witness6 (enc := enc) (C := Try.checked) false ⟨#[], #[.slice none 0 0], []⟩ 8 (by kernel_rfl) (by kernel_rfl) (by kernel_rfl) (by kernel_rfl)) ?_
  intro W base args ds gs before hval0 hW hcnd hsz0 _
  have hsz : (DataW.weightsEach Try.prog (Try.f9.params.toList ++ Rows.fnCachesSpec.plain.varTypes Try.prog) (ds ++ gs)).all (· ≤ reachBytes) = true := hsz0
  have hval : ∀ (j : Nat) t v, Try.f9.params[j]? = some t → args[j]? = some v → Value.okWide Try.prog W .any base t v := hval0
  have hW' := hW
  obtain ⟨p, q, hA0, hV, rfl, hfz, hnd⟩ := hW
  have hA : DataW.TrodAll enc Try.prog W 0 (fun _ => true) true Try.f9.params.toList args.toList ds p := hA0
  rw [Try.params9] at hA hval hsz
  obtain ⟨v0, vs0, d0, ds0, p0, q0, hargs, rfl, rfl, h0, r0⟩ := trodAll_cons hA
  obtain ⟨rfl, rfl, rfl⟩ := trodAll_nil r0
  obtain rfl : args = #[v0] := by cases args; simp_all
  obtain ⟨rfl, rfl⟩ := trodVars_none hV
  have hsm : ∀ k ∈ DataW.weightsEach Try.prog ([76] ++ Rows.fnCachesSpec.plain.varTypes Try.prog) ([d0] ++ []), k ≤ reachBytes := fun k hk => by simpa using List.all_eq_true.1 hsz k hk
  have k0 := h0
  have lt0 : ∀ x ∈ p0, x.block < W.heap.size := by obtain ⟨m, hm⟩ := k0; exact DataW.trod_lt m _ _ _ hm
  have c0 : v0.cells = #[v0] := by have z := okWide_slice Try.underlying76 (hval 0 76 v0 rfl rfl); (first | (obtain ⟨_, rfl⟩ := z; rfl) | (obtain ⟨_, _, _, rfl⟩ := z; rfl))
  obtain ⟨m0, hm0, hvr0⟩ := reads_bytes.one c0 h0 (fun k hk => hsm k (DataW.weights_mem_each (j := 0) rfl rfl k hk))
  refine ((c_laws_FnCaches m0 hm0).calls W (Mem W) [v0] (fun b hb => hb) rfl (fun j hj => ?_)).mono fun e W' ⟨v, he, bel, hrr⟩ => ?_
  · match j, hj with
    | 0, _ => exact hvr0
    | j + 1, hj => exact absurd hj (by simp)
  · obtain ⟨us, J, hl, rfl, hJ, hok, _, _⟩ := hrr.ex
    have h1 := hok 0 _ rfl
    have h2 : RV.val us (rb true) = .bool true := h1
    rw [h2] at he
    subst he
    exact ⟨_, rfl, _, _, _, [], _, [], hW', trodAll_mk1 (shut_bool Try.underlying4 _), (trodAll_cons_mk (Below.trod laidOut (by kernel_rfl) (of_decide_eq_true (by kernel_rfl)) k0 bel lt0) trodAll_mk0), rfl, bel.frame _, fun h => by cases h⟩
theorem over : Rows.fnCachesRow.holds Try.pinned (OpenSpec.ofChange Rows.fnCachesSpec) :=
  OpenClaim.holds_of_wide 9 Try.f9 rfl rfl rfl rfl rfl rfl rfl ⟨rfl, rfl, rfl, rfl, rfl⟩ rfl rfl rfl rfl rfl (by kernel_rfl) Try.func9 (by kernel_rfl)
    (of_decide_eq_true (by kernel_rfl)) (by unfold Func.isWrapper; first | (rw [if_pos (by decide +kernel)]; kernel_rfl) | (rw [if_neg (by decide +kernel)]; exact ⟨rfl, rfl⟩))
    (fun os started H enc _ => lifted os started H enc)
end Go.Proofs.Ytojaakpnpdnbhaa.L.FnCaches
namespace Go.Proofs.Ytojaakpnpdnbhaa
theorem fnCaches_holds : Rows.FnCachesSaid := L.FnCaches.over
#print axioms fnCaches_holds
end Go.Proofs.Ytojaakpnpdnbhaa
