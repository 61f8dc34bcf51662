/- The law FnExactFeedSolo answers true at every input that its statement lets in. -/
import Derived.Test.YtfcekiehcchebaaMa
import Derived.Test.YtfcekiehcchebaaRows
import Derived.Test.YtfcekiehcchebaaZ1
/- What the functions compute that tell a guest's own view: contracts. -/
set_option linter.unusedVariables false
set_option linter.unusedSimpArgs false
set_option maxRecDepth 100000
namespace Go.Proofs.Ytfcekiehcchebaa.L
open Go.RowKit
theorem firstNZ_zero {l : List Int} (h : firstNZ l = 0) : ∀ x ∈ l, x = 0 := by
  induction l with
  | nil => intro x hx; simp at hx
  | cons a l ih =>
    simp only [firstNZ] at h
    split at h
    · rename_i h0
      intro x hx
      rcases List.mem_cons.1 hx with rfl | hx
      · exact h0
      · exact ih h x hx
    · rename_i h0
      exact absurd h h0
theorem pagesFault_ok {l : List PageM} {top : Int} (h : pagesFault l top = 0) : PgsOK l top := by
  unfold pagesFault at h
  obtain ⟨h1, h⟩ := bif_zero h (by decide)
  obtain ⟨h2, h⟩ := bif_zero h (by decide)
  refine ⟨by simp at h2; omega, fun p hp => ?_⟩
  have h3 := firstNZ_zero h _ (List.mem_map_of_mem hp)
  unfold pageBad at h3
  obtain ⟨h4, h3⟩ := bif_zero h3 (by decide)
  simp only [Bool.or_eq_false_iff, Bool.not_eq_eq_eq_not, Bool.not_false, inR_iff] at h4
  omega
structure MemOK (m : List Int) : Prop where
  pos : 0 < m.length
  le : m.length ≤ 192
  mod : m.length % 8 = 0
  word : ∀ x ∈ m, isW x = true
theorem memFault_ok {m : List Int} (h : memFault m = 0) : MemOK m := by
  unfold memFault at h
  obtain ⟨h1, h⟩ := bif_zero h (by decide)
  obtain ⟨h2, h⟩ := bif_zero h (by decide)
  simp only [Bool.or_eq_false_iff, bne_eq_false_iff_eq, beq_eq_false_iff_ne, decide_eq_false_iff_not] at h1
  have h3 : Int.tmod (m.length : Int) 8 = (m.length : Int) % 8 := Int.tmod_eq_emod_of_nonneg (by omega)
  rw [h3] at h1
  exact ⟨by omega, by omega, by omega, fun x hx => List.all_eq_true.1 (by simpa using h2) x hx⟩
abbrev pageTop (mem : List Int) : Int := IntKind.i64.wrap (Int.tdiv mem.length 8)
theorem pageTop_eq {mem : List Int} (h : MemOK mem) : pageTop mem * 8 = mem.length := by
  have h1 : Int.tdiv (mem.length : Int) 8 = (mem.length : Int) / 8 := Int.tdiv_eq_ediv_of_nonneg (by omega)
  have := h.mod
  have := h.le
  unfold pageTop
  rw [h1, wrap_i64 _ (by omega) (by omega)]
  omega
def stepF (m : HartM) (l : List PageM) (mem : List Int) : Int :=
  if hFault m = 0 then (if pagesFault l 24 = 0 then (bif (memFault mem != 0) || l.any (fun p => decide (p.to ≥ pageTop mem)) then 1 else 0) else pagesFault l 24) else hFault m
theorem firstNZ_two (a b : Int) : firstNZ [a, b] = if a = 0 then b else a := by
  simp only [firstNZ]
  split
  · split
    · rename_i h; exact h.symm
    · rfl
  · rfl
theorem c_impl_stepFault (m : HartM) (hs : m.small) (l : List PageM) (hl : l.length ≤ 1048576) (mem : List Int) (hm : mem.length ≤ 1048576) : FnOK Try.prog 99 [hartLV m, .d (pages l), .d (ints mem)] (ri (stepF m l mem)) := by
  generalize hr : stepF m l mem = r
  unfold stepF at hr
  have e2 := firstNZ_two (hFault m) (pagesFault l 24)
  have hz : (firstNZ [hFault m, pagesFault l 24] != 0) = false → hFault m = 0 ∧ pagesFault l 24 = 0 := fun h => by
    have := firstNZ_zero (by simpa only [bne_eq_false_iff_eq] using h)
    exact ⟨this _ (by simp), this _ (by simp)⟩
  have hn : (firstNZ [hFault m, pagesFault l 24] != 0) = true → firstNZ [hFault m, pagesFault l 24] = r := fun h => by
    have h : ¬ firstNZ [hFault m, pagesFault l 24] = 0 := by simpa only [bne_iff_ne, ne_eq] using h
    rw [e2] at h ⊢
    rw [← hr]
    split
    · rename_i h0
      rw [if_pos h0] at h
      rw [if_neg h]
    · rfl
  have hr1 : hFault m = 0 ∧ pagesFault l 24 = 0 → (bif (memFault mem != 0) || l.any (fun p => decide (p.to ≥ pageTop mem)) then 1 else 0 : Int) = r := fun h => by
    rw [if_pos h.1, if_pos h.2] at hr; exact hr
  refine fn_of lv99 Try.func99 rfl rfl (by kernel_rfl) rfl ?_
  refine .inl ⟨_, _, rfl, c_impl_HartFault m hs, rfl, ?_⟩
  refine .inl ⟨_, _, rfl, c_impl_PagesFault l 24 hl, rfl, ?_⟩
  refine .inl ⟨_, _, rfl, (c_impl_firstOf [hFault m, pagesFault l 24] (by simp)).weak ⟨LVLe.d (DLe.l rfl (fun i hi => litD_eq [hFault m, pagesFault l 24] i hi)), trivial⟩, rfl, ?_⟩
  refine bsplit_intro (fun h => ?_) (fun h => ?_)
  · exact ⟨⟨congrArg (Value.int .i64) (hn h), trivial⟩, rfl⟩
  have hr2 := hr1 (hz h)
  refine ask_intro (by decide) ?_
  refine .inl ⟨_, _, rfl, c_impl_MemoryFault mem hm, rfl, ?_⟩
  refine bsplit_intro (fun h1 => ?_) (fun h1 => ?_)
  · repeat' (first | refine bsplit_true ?_ | refine bsplit_false ?_)
    rw [h1] at hr2
    exact ⟨⟨congrArg (Value.int .i64) hr2, trivial⟩, rfl⟩
  rw [h1, Bool.false_or] at hr2
  repeat' (first | refine bsplit_true ?_ | refine bsplit_false ?_)
  refine .inl ⟨_, _, rfl, c_slices_ContainsFunc_Page1 137 (pageTop mem) (fun p => decide (p.to ≥ pageTop mem)) (fun x => c_impl_stepFault_1 x _) l (by omega), rfl, ?_⟩
  refine bsplit_intro (fun h2 => ?_) (fun h2 => ?_)
  · rw [h2] at hr2
    exact ⟨⟨congrArg (Value.int .i64) hr2, trivial⟩, rfl⟩
  · rw [h2] at hr2
    exact ⟨⟨congrArg (Value.int .i64) hr2, trivial⟩, rfl⟩
theorem stepF_any {l : List PageM} {mem : List Int} (hp : pagesFault l 24 = 0) (hm : memFault mem = 0) (i : Nat) (hi : i < l.length) :
    decide (IntKind.i64.wrap (IntKind.i64.wrap ((l.getD i ⟨0, 0⟩).to + 1) * 8) > (mem.length : Int)) = decide ((l.getD i ⟨0, 0⟩).to ≥ pageTop mem) := by
  have h1 := (pagesFault_ok hp).get (i := i) (by rw [← (pagesFault_ok hp).len]; exact hi)
  have h2 := pageTop_eq (memFault_ok hm)
  generalize (l.getD i ⟨0, 0⟩).to = t at *
  rw [wrap_i64 (t + 1) (by omega) (by omega), wrap_i64 _ (by omega) (by omega)]
  exact decide_eq_decide.2 (by omega)
theorem c_spec_l10Asked (m : HartM) (hs : m.small) (l : List PageM) (hl : l.length ≤ 1048576) (mem : List Int) (hm : mem.length ≤ 1048576) : FnOK Try.prog 96 [.dptr (hartD m), .d (pages l), .d (ints mem)] (ri (stepF m l mem)) := by
  generalize hr : stepF m l mem = r
  unfold stepF at hr
  have hany : pagesFault l 24 = 0 → memFault mem = 0 → ∀ i, i < l.length → _ := fun a b i hi => stepF_any a b i hi
  refine fn_of lv96 Try.func96 rfl rfl (by kernel_rfl) rfl ?_
  refine .inl ⟨_, _, rfl, c_spec_l8Fault m hs, rfl, ?_⟩
  refine bsplit_intro (fun h => ?_) (fun h => ?_)
  · rw [if_neg (by simpa using h)] at hr
    exact ⟨⟨congrArg (Value.int .i64) hr, trivial⟩, rfl⟩
  rw [if_pos (by simpa using h)] at hr
  refine .inl ⟨_, _, rfl, c_spec_PagesFault l 24 hl, rfl, ?_⟩
  refine bsplit_intro (fun h3 => ?_) (fun h3 => ?_)
  · rw [if_neg (by simpa using h3)] at hr
    exact ⟨⟨congrArg (Value.int .i64) hr, trivial⟩, rfl⟩
  have h3 : pagesFault l 24 = 0 := by simpa using h3
  rw [if_pos h3] at hr
  refine .inl ⟨_, _, rfl, c_spec_MemoryFault mem hm, rfl, ?_⟩
  refine bsplit_intro (fun h1 => ?_) (fun h1 => ?_)
  · rw [h1] at hr
    exact ⟨⟨congrArg (Value.int .i64) hr, trivial⟩, rfl⟩
  rw [h1, Bool.false_or] at hr
  have hany2 := hany h3 (by simpa using h1)
  refine ⟨{ i : Nat // i ≤ l.length ∧ (l.drop i).any (fun p => decide (p.to ≥ pageTop mem)) = l.any (fun p => decide (p.to ≥ pageTop mem)) }, fun i => ⟨frL [(1, .d (pages l)), (2, .d (ints mem)), (9, di i.1)], hpL [], 0, 0⟩, fun i => l.length - i.1, ⟨0, by omega, by simp⟩,
    le_of [] rfl rfl rfl rfl trivial (tellFr_d rfl (DLe.refl _) (tellFr_d rfl (DLe.refl _) (tellFr_v rfl rfl trivial))), ?_⟩
  rintro ⟨i, hi, hall⟩
  refine bsplit_intro (fun h => ?_) (fun h => ?_)
  · have h : i < l.length := by simp at h; exact h
    refine ask_intro ⟨by omega, by show (i : Int) < l.length; omega, rfl⟩ ?_
    refine bsplit_intro (fun h2 => ?_) (fun h2 => ?_)
    · have h2 := (hany2 i h).symm.trans h2
      rw [← hall, drop_anyG ⟨0, 0⟩ l _ i h, h2] at hr
      exact ⟨⟨congrArg (Value.int .i64) hr, trivial⟩, rfl⟩
    · have h2 := (hany2 i h).symm.trans h2
      exact ⟨⟨i + 1, by omega, by rw [← hall, drop_anyG ⟨0, 0⟩ l _ i h, h2]; rfl⟩, le_of [] rfl rfl rfl rfl trivial (tellFr_d rfl (DLe.refl _) (tellFr_d rfl (DLe.refl _) (tellFr_v rfl (congrArg (Value.int .i64) (wrap_i64 (i + 1) (by omega) (by omega) : IntKind.i64.wrap ((i : Int) + 1) = ((i + 1 : Nat) : Int))) trivial))), by show l.length - (i + 1) < l.length - i; omega⟩
  · simp at h
    rw [← hall, List.drop_eq_nil_of_le h] at hr
    exact ⟨⟨congrArg (Value.int .i64) hr, trivial⟩, rfl⟩
def idPages : List PageM := (List.range 8).map fun (i : Nat) => (⟨(i : Int), 7⟩ : PageM)
def spaceM (m : HartM) (l : List PageM) (mem : List Int) : Int × List PageM :=
  if m.csr.getD 10 0 = 0 then (0, idPages) else
  bif (decide ((l.getD (m.csr.getD 10 0 - 1).toNat ⟨0, 0⟩).to < 0) || (andI (l.getD (m.csr.getD 10 0 - 1).toNat ⟨0, 0⟩).kinds 1 == 0)) || (m.csr.getD 10 0 == 8) then (7, []) else (0, (pageW mem (l.getD (m.csr.getD 10 0 - 1).toNat ⟨0, 0⟩).to).map entryP)
/-- a machine over a memory with which nothing is wrong -/
structure StepOK (m : HartM) (l : List PageM) (mem : List Int) : Prop where
  hart : m.right
  pgs : PgsOK l 24
  ram : MemOK mem
  top : ∀ p ∈ l, (p.to + 1) * 8 ≤ mem.length
theorem stepF_ok {m : HartM} {l : List PageM} {mem : List Int} (h : stepF m l mem = 0) : StepOK m l mem := by
  unfold stepF at h
  split at h
  · rename_i h0
    split at h
    · rename_i h1
      obtain ⟨h2, _⟩ := bif_zero h (by decide)
      simp only [Bool.or_eq_false_iff, bne_eq_false_iff_eq] at h2
      refine ⟨hFault_right h0, pagesFault_ok h1, memFault_ok h2.1, fun p hp => ?_⟩
      have h3 := List.any_eq_false.1 h2.2 p hp
      have h4 := pageTop_eq (memFault_ok h2.1)
      simp only [decide_eq_true_eq] at h3
      omega
    · rename_i h1; exact absurd h h1
  · rename_i h0; exact absurd h h0
theorem StepOK.table {m : HartM} {l : List PageM} {mem : List Int} (h : StepOK m l mem) : 0 ≤ m.csr.getD 10 0 ∧ m.csr.getD 10 0 ≤ 8 := by
  refine ⟨?_, h.hart.c10⟩
  rw [getD_at _ (by rw [h.hart.csr]; omega)]
  exact (isW_iff.1 (h.hart.wc _ (List.getElem_mem _))).1
theorem StepOK.page {m : HartM} {l : List PageM} {mem : List Int} (h : StepOK m l mem) {i : Nat} (hi : i < 8) : -1 ≤ (l.getD i ⟨0, 0⟩).to ∧ (l.getD i ⟨0, 0⟩).to < 24 ∧ ((l.getD i ⟨0, 0⟩).to + 1) * 8 ≤ mem.length := by
  have h1 := h.pgs.get hi
  refine ⟨h1.1, h1.2, ?_⟩
  rw [getD_at _ (by rw [h.pgs.len]; exact hi)]
  exact h.top _ (List.getElem_mem _)
theorem pagesFrom_page {mem : List Int} (hm : MemOK mem) {p : Int} (h0 : 0 ≤ p) (h : (p + 1) * 8 ≤ mem.length) : pagesFrom (pageW mem p) = (0, (pageW mem p).map entryP) := by
  have h8 := pageW_len mem p h0 h
  have hw : (pageW mem p).all isW = true := List.all_eq_true.2 (fun x hx => hm.word x (List.mem_of_mem_drop (List.mem_of_mem_take hx)))
  unfold pagesFrom
  rw [h8, hw]
  rfl
theorem id_get (i : Nat) (hi : i < 8) : idPages.take i ++ [⟨(i : Int), 7⟩] = idPages.take (i + 1) := by
  have : i = 0 ∨ i = 1 ∨ i = 2 ∨ i = 3 ∨ i = 4 ∨ i = 5 ∨ i = 6 ∨ i = 7 := by omega
  rcases this with rfl | rfl | rfl | rfl | rfl | rfl | rfl | rfl <;> rfl
theorem c_impl_Hart_space (m : HartM) (l : List PageM) (mem : List Int) (ok : StepOK m l mem) : FnOK Try.prog 100 [.dptr (hartD m), .d (pages l), .d (ints mem)] (.r (pgsR (spaceM m l mem))) := by
  have hc := ok.hart.csr
  have ht := ok.table
  have hml := ok.ram.le
  have hpl := ok.pgs.len
  generalize hv : spaceM m l mem = v
  unfold spaceM at hv
  have hp := fun (h : 0 < m.csr.getD 10 0) => ok.page (i := (m.csr.getD 10 0 - 1).toNat) (by omega)
  have hw1 : IntKind.i64.wrap (m.csr.getD 10 0 - 1) = m.csr.getD 10 0 - 1 := wrap_i64 _ (by omega) (by omega)
  have cpf : ∀ to : Int, 0 ≤ to → (to + 1) * 8 ≤ mem.length → FnOK Try.prog 138 [.d (ints (pageW mem to))] (.r (pgsR (0, (pageW mem to).map entryP))) := fun to h1 h2 => by
    have := c_impl_PagesFrom (pageW mem to) (by rw [pageW_len mem to h1 h2]; omega)
    rwa [pagesFrom_page ok.ram h1 h2] at this
  refine fn_of lv100 Try.func100 rfl rfl (by kernel_rfl) rfl ?_
  refine ask_intro ⟨by omega, by show (10 : Int) < m.csr.length; omega, rfl⟩ ?_
  refine bsplit_intro (fun h => ?_) (fun h => ?_)
  · have h : IntKind.i64.wrap (m.csr.getD 10 0 - 1) < 0 := of_decide_eq_true h
    rw [if_pos (by omega)] at hv
    subst hv
    refine ⟨{ i : Nat // i ≤ 8 }, fun i => ⟨frL [(6, .ptr 10 0), (8, .row 11), (20, di i.1)], hpL [(10, .box 71 [di 0, dv (.slice none 0 0)]), (11, .row 129 2 (idPages.take i.1).length (pagesF (idPages.take i.1)))], 100, 0⟩, fun i => 8 - i.1, ⟨0, by omega⟩,
      le_of [(10, 0), (11, 12288)] rfl rfl rfl rfl (tellHp_box rfl rfl ⟨rfl, rfl, trivial⟩ (tellHp_row rfl rfl (show 0 = _ by simp) (fun j hj => absurd hj (by omega)) tellHp_nil)) (tellFr_ptr rfl rfl (tellFr_row rfl rfl (tellFr_v rfl rfl trivial))), ?_⟩
    rintro ⟨i, hi⟩
    have hlen : (idPages.take i).length = i := by rw [List.length_take]; show min i 8 = i; omega
    refine bsplit_intro (fun h2 => ?_) (fun h2 => ?_)
    · have h2 : i < 8 := by simp at h2; omega
      have htk := id_get i h2
      have hw : IntKind.i64.wrap ((i : Int) + 1) = ((i + 1 : Nat) : Int) := wrap_i64 (i + 1) (by omega) (by omega)
      refine ask_intro ⟨by show ((idPages.take i).length + 1) * 16 ≤ 140737488355328; omega, by show (idPages.take i).length + 1 ≤ 9223372036854775807; omega, one_len2 ⟨(i : Int), 7⟩⟩ ?_
      exact ⟨⟨i + 1, by omega⟩, le_of [(10, 10), (11, 8420)] rfl rfl rfl rfl (tellHp_box rfl rfl ⟨rfl, rfl, trivial⟩ (tellHp_row rfl rfl (show (idPages.take i).length + 1 = (idPages.take (i + 1)).length by rw [← htk]; simp) (fun j hj => (app_pages (idPages.take i) ⟨(i : Int), 7⟩ j hj).trans (by rw [htk])) tellHp_nil)) (tellFr_ptr rfl rfl (tellFr_row rfl rfl (tellFr_v rfl (congrArg (Value.int .i64) hw) trivial))), by show 8 - (i + 1) < 8 - i; omega⟩
    · have h2 : i = 8 := by simp at h2; omega
      subst h2
      exact ⟨⟨rfl, ⟨rfl, rfl, rfl, fun j hj => ⟨rfl, rfl⟩⟩, trivial⟩, rfl⟩
  have h : ¬ IntKind.i64.wrap (m.csr.getD 10 0 - 1) < 0 := of_decide_eq_false h
  have h0 : 0 < m.csr.getD 10 0 := by omega
  rw [if_neg (by omega)] at hv
  rw [← hw1] at hv
  refine ask_intro ⟨by show 0 ≤ IntKind.i64.wrap (m.csr.getD 10 0 - 1); omega, by show IntKind.i64.wrap (m.csr.getD 10 0 - 1) < l.length; omega, rfl⟩ ?_
  refine bsplit_intro (fun h1 => ?_) (fun h1 => ?_)
  · repeat' (first | refine bsplit_true ?_ | refine bsplit_false ?_)
    rw [show decide ((l.getD (IntKind.i64.wrap (m.csr.getD 10 0 - 1)).toNat ⟨0, 0⟩).to < 0) = true from h1] at hv
    subst hv
    exact ⟨⟨rfl, ⟨rfl, rfl⟩, trivial⟩, rfl⟩
  rw [show decide ((l.getD (IntKind.i64.wrap (m.csr.getD 10 0 - 1)).toNat ⟨0, 0⟩).to < 0) = false from h1, Bool.false_or] at hv
  have h1 : ¬ (l.getD (IntKind.i64.wrap (m.csr.getD 10 0 - 1)).toNat ⟨0, 0⟩).to < 0 := of_decide_eq_false h1
  repeat' (first | refine bsplit_true ?_ | refine bsplit_false ?_)
  refine ask_intro ⟨by show 0 ≤ IntKind.i64.wrap (m.csr.getD 10 0 - 1); omega, by show IntKind.i64.wrap (m.csr.getD 10 0 - 1) < l.length; omega, rfl⟩ ?_
  repeat' (first | refine bsplit_true ?_ | refine bsplit_false ?_)
  refine bsplit_intro (fun h2 => ?_) (fun h2 => ?_)
  · repeat' (first | refine bsplit_true ?_ | refine bsplit_false ?_)
    rw [show (andI (l.getD (IntKind.i64.wrap (m.csr.getD 10 0 - 1)).toNat ⟨0, 0⟩).kinds 1 == 0) = true from h2] at hv
    subst hv
    exact ⟨⟨rfl, ⟨rfl, rfl⟩, trivial⟩, rfl⟩
  rw [show (andI (l.getD (IntKind.i64.wrap (m.csr.getD 10 0 - 1)).toNat ⟨0, 0⟩).kinds 1 == 0) = false from h2, Bool.false_or] at hv
  repeat' (first | refine bsplit_true ?_ | refine bsplit_false ?_)
  refine bsplit_intro (fun h3 => ?_) (fun h3 => ?_)
  · have h3 : (IntKind.i64.wrap (m.csr.getD 10 0 - 1) == 7) = true := h3
    have h3 : IntKind.i64.wrap (m.csr.getD 10 0 - 1) = 7 := by simpa only [beq_iff_eq] using h3
    rw [show (m.csr.getD 10 0 == 8) = true by rw [beq_iff_eq]; omega] at hv
    subst hv
    exact ⟨⟨rfl, ⟨rfl, rfl⟩, trivial⟩, rfl⟩
  have h3 : (IntKind.i64.wrap (m.csr.getD 10 0 - 1) == 7) = false := h3
  have h3 : IntKind.i64.wrap (m.csr.getD 10 0 - 1) ≠ 7 := by simpa only [beq_eq_false_iff_ne] using h3
  rw [show (m.csr.getD 10 0 == 8) = false by rw [beq_eq_false_iff_ne]; omega] at hv
  subst hv
  have hp := hp h0
  rw [← hw1] at hp
  refine ask_intro ⟨by show 0 ≤ IntKind.i64.wrap (m.csr.getD 10 0 - 1); omega, by show IntKind.i64.wrap (m.csr.getD 10 0 - 1) < l.length; omega, rfl⟩ ?_
  refine .inl ⟨_, _, rfl, c_impl_pageOf mem (l.getD (IntKind.i64.wrap (m.csr.getD 10 0 - 1)).toNat ⟨0, 0⟩).to (by omega) (by omega) (by omega), rfl, ?_⟩
  refine .inl ⟨_, _, rfl, cpf (l.getD (IntKind.i64.wrap (m.csr.getD 10 0 - 1)).toNat ⟨0, 0⟩).to (by omega) (by omega), rfl, ?_⟩
  exact ⟨⟨rfl, ⟨rfl, rfl, rfl, fun j hj => ⟨rfl, rfl⟩⟩, trivial⟩, rfl⟩
abbrev busD (m : HartM) (l : List PageM) (mem : List Int) : List D := [pages l, ints mem, dI 0, ints m.regs, dI m.pc, ints m.csr, dB m.halted, dB m.waiting, dB m.rung, dI m.done, ints m.inp, ints m.out, dI 0]
theorem space_walk {m : HartM} {l : List PageM} {mem : List Int} (ok : StepOK m l mem) (h0 : 0 < m.csr.getD 10 0) :
    IntKind.i64.wrap (IntKind.i64.wrap (m.csr.getD 10 0 - 1) * 8) = (m.csr.getD 10 0 - 1) * 8 ∧ walkP l ((m.csr.getD 10 0 - 1) * 8) 1 = bif decide ((l.getD (m.csr.getD 10 0 - 1).toNat ⟨0, 0⟩).to < 0) || (andI (l.getD (m.csr.getD 10 0 - 1).toNat ⟨0, 0⟩).kinds 1 == 0) then -1 else (l.getD (m.csr.getD 10 0 - 1).toNat ⟨0, 0⟩).to * 8 := by
  have ht := ok.table
  have hin : inR ((m.csr.getD 10 0 - 1) * 8) 0 63 = true := inR_iff.2 ⟨by omega, by omega⟩
  have hd := div8 (a := (m.csr.getD 10 0 - 1) * 8) (by omega) (by omega)
  have e1 : Int.tdiv ((m.csr.getD 10 0 - 1) * 8) 8 = m.csr.getD 10 0 - 1 := by rw [Int.tdiv_eq_ediv_of_nonneg (by omega)]; omega
  have e2 : Int.tmod ((m.csr.getD 10 0 - 1) * 8) 8 = 0 := by rw [Int.tmod_eq_emod_of_nonneg (by omega)]; omega
  have ea : pageAt l ((m.csr.getD 10 0 - 1) * 8) = l.getD (m.csr.getD 10 0 - 1).toNat ⟨0, 0⟩ := by unfold pageAt; rw [hd.1, e1]
  have hw := fun h => (walk_get (at_ := (m.csr.getD 10 0 - 1) * 8) ok.pgs (by omega) hin h).1
  rw [ea, e2] at hw
  have ew : IntKind.i64.wrap (m.csr.getD 10 0 - 1) = m.csr.getD 10 0 - 1 := wrap_i64 _ (by omega) (by omega)
  refine ⟨by rw [ew, wrap_i64 _ (by omega) (by omega)], ?_⟩
  unfold walkP
  rw [hin, ea, e2]
  cases hb : decide ((l.getD (m.csr.getD 10 0 - 1).toNat ⟨0, 0⟩).to < 0) || (andI (l.getD (m.csr.getD 10 0 - 1).toNat ⟨0, 0⟩).kinds 1 == 0) with
  | true => rfl
  | false =>
    simp only [Bool.not_true, cond_false]
    rw [hw (of_decide_eq_false (Bool.or_eq_false_iff.1 hb).1)]
    omega
theorem c_spec_l10Space (m : HartM) (l : List PageM) (mem : List Int) (ok : StepOK m l mem) : FnOK Try.prog 97 [.dptr (busD m l mem)] (.tup [.one (oPages (spaceM m l mem).2), .one (.v (.bool ((spaceM m l mem).1 == 0)))]) := by
  have hc := ok.hart.csr
  have ht := ok.table
  have hml := ok.ram.le
  have hpl := ok.pgs.len
  generalize hv : spaceM m l mem = v
  unfold spaceM at hv
  have hp := fun (h : 0 < m.csr.getD 10 0) => ok.page (i := (m.csr.getD 10 0 - 1).toNat) (by omega)
  have hsw := fun h => space_walk ok h
  have cw := c_spec_l4Walk l hpl ((m.csr.getD 10 0 - 1) * 8) 1
  have cpf : ∀ to : Int, 0 ≤ to → (to + 1) * 8 ≤ mem.length → FnOK Try.prog 135 [.d (ints (pageW mem to))] (.r (pgsR (0, (pageW mem to).map entryP))) := fun to h1 h2 => by
    have := c_spec_PagesFrom (pageW mem to) (by rw [pageW_len mem to h1 h2]; omega)
    rwa [pagesFrom_page ok.ram h1 h2] at this
  by_cases h : m.csr.getD 10 0 = 0
  · rw [if_pos h] at hv
    subst hv
    refine fn_of lv97 Try.func97 rfl rfl (by kernel_rfl) rfl ?_
    refine ask_intro ⟨by omega, by show (10 : Int) < m.csr.length; omega, rfl⟩ ?_
    refine bsplit_of_true (show (m.csr.getD 10 0 == 0) = true from beq_iff_eq.2 h) ?_
    refine ⟨{ i : Nat // i ≤ 8 }, fun i => ⟨frL [(5, .row 11), (6, di i.1)], hpL [(11, .row 129 2 (idPages.take i.1).length (pagesF (idPages.take i.1)))], 100, 0⟩, fun i => 8 - i.1, ⟨0, by omega⟩,
      le_of [(11, 12288)] rfl rfl rfl rfl (tellHp_row rfl rfl (show 0 = _ by simp) (fun j hj => absurd hj (by omega)) tellHp_nil) (tellFr_row rfl rfl (tellFr_v rfl rfl trivial)), ?_⟩
    rintro ⟨i, hi⟩
    have hlen : (idPages.take i).length = i := by rw [List.length_take]; show min i 8 = i; omega
    refine bsplit_intro (fun h2 => ?_) (fun h2 => ?_)
    · have h2 : i < 8 := by simp at h2; omega
      have htk := id_get i h2
      have hw : IntKind.i64.wrap ((i : Int) + 1) = ((i + 1 : Nat) : Int) := wrap_i64 (i + 1) (by omega) (by omega)
      refine ask_intro ⟨by show ((idPages.take i).length + 1) * 16 ≤ 140737488355328; omega, by show (idPages.take i).length + 1 ≤ 9223372036854775807; omega, one_len2 ⟨(i : Int), 7⟩⟩ ?_
      exact ⟨⟨i + 1, by omega⟩, le_of [(11, 4324)] rfl rfl rfl rfl (tellHp_row rfl rfl (show (idPages.take i).length + 1 = (idPages.take (i + 1)).length by rw [← htk]; simp) (fun j hj => (app_pages (idPages.take i) ⟨(i : Int), 7⟩ j hj).trans (by rw [htk])) tellHp_nil) (tellFr_row rfl rfl (tellFr_v rfl (congrArg (Value.int .i64) hw) trivial)), by show 8 - (i + 1) < 8 - i; omega⟩
    · have h2 : i = 8 := by simp at h2; omega
      subst h2
      exact ⟨⟨⟨rfl, rfl, rfl, fun j hj => ⟨rfl, rfl⟩⟩, rfl, trivial⟩, rfl⟩
  rw [if_neg h] at hv
  have hsw := hsw (by omega)
  have hp := hp (by omega)
  rw [hsw.2, ← hsw.1] at cw
  have hsw2 := hsw.1
  clear hsw
  generalize hP : l.getD (m.csr.getD 10 0 - 1).toNat ⟨0, 0⟩ = P at *
  by_cases h8 : m.csr.getD 10 0 = 8
  · rw [beq_iff_eq.2 h8, Bool.or_true] at hv
    subst hv
    refine fn_of lv97 Try.func97 rfl rfl (by kernel_rfl) rfl ?_
    refine ask_intro ⟨by omega, by show (10 : Int) < m.csr.length; omega, rfl⟩ ?_
    refine bsplit_of_false (show (m.csr.getD 10 0 == 0) = false from beq_eq_false_iff_ne.2 h) ?_
    refine .inl ⟨_, _, rfl, cw, rfl, ?_⟩
    refine bsplit_of_true (show (m.csr.getD 10 0 == 8) = true from beq_iff_eq.2 h8) ?_
    repeat' (first | refine bsplit_true ?_ | refine bsplit_false ?_)
    exact ⟨⟨⟨rfl, rfl⟩, rfl, trivial⟩, rfl⟩
  rw [beq_eq_false_iff_ne.2 h8, Bool.or_false] at hv
  generalize hb : (decide (P.to < 0) || (andI P.kinds 1 == 0)) = b at *
  cases b with
  | true =>
    subst hv
    refine fn_of lv97 Try.func97 rfl rfl (by kernel_rfl) rfl ?_
    refine ask_intro ⟨by omega, by show (10 : Int) < m.csr.length; omega, rfl⟩ ?_
    refine bsplit_of_false (show (m.csr.getD 10 0 == 0) = false from beq_eq_false_iff_ne.2 h) ?_
    refine .inl ⟨_, _, rfl, cw, rfl, ?_⟩
    refine bsplit_of_false (show (m.csr.getD 10 0 == 8) = false from beq_eq_false_iff_ne.2 h8) ?_
    repeat' (first | refine bsplit_true ?_ | refine bsplit_false ?_)
    exact ⟨⟨⟨rfl, rfl⟩, rfl, trivial⟩, rfl⟩
  | false =>
    subst hv
    have hP0 : 0 ≤ P.to := by
      have := of_decide_eq_false (Bool.or_eq_false_iff.1 hb).1
      omega
    have hsl : DLe (.l (IntKind.i64.wrap (P.to * 8 + 8) - P.to * 8).toNat (fun i => intsF mem ((P.to * 8).toNat + i))) (ints (pageW mem P.to)) := by
      have := pageW_D mem P.to hP0 hp.2.2
      rw [wrap_i64 _ (by omega) (by omega), show P.to * 8 + 8 = (P.to + 1) * 8 by omega]
      exact this
    refine fn_of lv97 Try.func97 rfl rfl (by kernel_rfl) rfl ?_
    refine ask_intro ⟨by omega, by show (10 : Int) < m.csr.length; omega, rfl⟩ ?_
    refine bsplit_of_false (show (m.csr.getD 10 0 == 0) = false from beq_eq_false_iff_ne.2 h) ?_
    refine .inl ⟨_, _, rfl, cw, rfl, ?_⟩
    refine bsplit_of_false (show (m.csr.getD 10 0 == 8) = false from beq_eq_false_iff_ne.2 h8) ?_
    repeat' (first | refine bsplit_true ?_ | refine bsplit_false ?_)
    refine bsplit_of_false (decide_eq_false (show ¬ P.to * 8 < 0 by omega)) ?_
    have hw8 : IntKind.i64.wrap (P.to * 8 + 8) = P.to * 8 + 8 := wrap_i64 _ (by omega) (by omega)
    refine ask_intro ⟨by show 0 ≤ P.to * 8; omega, by show P.to * 8 ≤ IntKind.i64.wrap (P.to * 8 + 8); omega, by show IntKind.i64.wrap (P.to * 8 + 8) ≤ (mem.length : Int); omega, .inr (fun i hi => rfl)⟩ ?_
    refine .inl ⟨_, _, rfl, (cpf P.to hP0 hp.2.2).weak ⟨LVLe.d hsl, trivial⟩, rfl, ?_⟩
    exact ⟨⟨⟨rfl, rfl, rfl, fun j hj => ⟨rfl, rfl⟩⟩, rfl, trivial⟩, rfl⟩
def spaceOf (m : HartM) (l : List PageM) (mem : List Int) : Int × List PageM := if stepF m l mem = 0 then spaceM m l mem else (stepF m l mem, [])
theorem spaceM_1 (m : HartM) (l : List PageM) (mem : List Int) : spaceM m l mem = (0, (spaceM m l mem).2) ∨ spaceM m l mem = (7, []) := by
  unfold spaceM
  split
  · exact .inl rfl
  · generalize (decide ((l.getD (m.csr.getD 10 0 - 1).toNat ⟨0, 0⟩).to < 0) || (andI (l.getD (m.csr.getD 10 0 - 1).toNat ⟨0, 0⟩).kinds 1 == 0) || (m.csr.getD 10 0 == 8)) = b
    cases b
    · exact .inl rfl
    · exact .inr rfl
theorem spaceM_len {m : HartM} {l : List PageM} {mem : List Int} (ok : StepOK m l mem) : (spaceM m l mem).2.length ≤ 8 := by
  unfold spaceM
  split
  · show idPages.length ≤ 8
    decide
  · generalize (decide ((l.getD (m.csr.getD 10 0 - 1).toNat ⟨0, 0⟩).to < 0) || (andI (l.getD (m.csr.getD 10 0 - 1).toNat ⟨0, 0⟩).kinds 1 == 0) || (m.csr.getD 10 0 == 8)) = b
    cases b
    · show ((pageW mem _).map entryP).length ≤ 8
      rw [List.length_map]
      unfold pageW
      rw [List.length_take]
      omega
    · simp
theorem spaceOf_few (m : HartM) (l : List PageM) (mem : List Int) : (spaceOf m l mem).2.length ≤ 8 := by
  unfold spaceOf
  split
  · rename_i h; exact spaceM_len (stepF_ok h)
  · simp
theorem c_impl_SpaceOf (m : HartM) (hs : m.small) (l : List PageM) (hl : l.length ≤ 1048576) (mem : List Int) (hm : mem.length ≤ 1048576) : FnOK Try.prog 47 [hartLV m, .d (pages l), .d (ints mem)] (.r (pgsR (spaceOf m l mem))) := by
  have ca := c_impl_stepFault m hs l hl mem hm
  have cs := fun h => c_impl_Hart_space m l mem (stepF_ok h)
  generalize hv : spaceOf m l mem = v
  unfold spaceOf at hv
  refine fn_of lv47 Try.func47 rfl rfl (by kernel_rfl) rfl ?_
  refine .inl ⟨_, _, rfl, ca, rfl, ?_⟩
  refine bsplit_intro (fun h => ?_) (fun h => ?_)
  · rw [if_neg (by simpa using h)] at hv
    subst hv
    exact ⟨⟨rfl, ⟨rfl, rfl⟩, trivial⟩, rfl⟩
  have h : stepF m l mem = 0 := by simpa using h
  rw [if_pos h] at hv
  subst hv
  refine .inl ⟨_, _, rfl, cs h, rfl, ?_⟩
  exact ⟨⟨rfl, ⟨rfl, rfl, rfl, fun j hj => ⟨rfl, rfl⟩⟩, trivial⟩, rfl⟩
theorem c_spec_SpaceOf (m : HartM) (hs : m.small) (l : List PageM) (hl : l.length ≤ 1048576) (mem : List Int) (hm : mem.length ≤ 1048576) : FnOK Try.prog 44 [hartLV m, .d (pages l), .d (ints mem)] (.r (pgsR (spaceOf m l mem))) := by
  have ca := c_spec_l10Asked m hs l hl mem hm
  have cs := fun h => c_spec_l10Space m l mem (stepF_ok h)
  have h1 := spaceM_1 m l mem
  generalize hv : spaceOf m l mem = v
  unfold spaceOf at hv
  generalize spaceM m l mem = q at *
  refine fn_of lv44 Try.func44 rfl rfl (by kernel_rfl) rfl ?_
  refine .inl ⟨_, _, rfl, ca, rfl, ?_⟩
  refine bsplit_intro (fun h => ?_) (fun h => ?_)
  · rw [if_neg (by simpa using h)] at hv
    subst hv
    exact ⟨⟨rfl, ⟨rfl, rfl⟩, trivial⟩, rfl⟩
  have h : stepF m l mem = 0 := by simpa using h
  rw [if_pos h] at hv
  subst hv
  refine .inl ⟨_, _, rfl, cs h, rfl, ?_⟩
  refine bsplit_intro (fun h2 => ?_) (fun h2 => ?_)
  · have h2 : (!(q.1 == 0)) = true := h2
    have h1 : q = (7, []) := by
      rcases h1 with h1 | h1
      · rw [h1] at h2; simp at h2
      · exact h1
    subst h1
    exact ⟨⟨rfl, ⟨rfl, rfl⟩, trivial⟩, rfl⟩
  have h2 : (!(q.1 == 0)) = false := h2
  have h3 : q.1 = 0 := by simpa using h2
  exact ⟨⟨congrArg (Value.int .i64) h3.symm, ⟨rfl, rfl, rfl, fun j hj => ⟨rfl, rfl⟩⟩, trivial⟩, rfl⟩
end Go.Proofs.Ytfcekiehcchebaa.L

/- What the law functions compute over results that bear pages: contracts. -/
set_option linter.unusedVariables false
set_option linter.unusedSimpArgs false
set_option maxRecDepth 100000
namespace Go.Proofs.Ytfcekiehcchebaa.L
open Go.RowKit
abbrev pagesM (l : List PageM) (k : Int) : D := .l l.length (pageMk k)
abbrev rowPM (l : List PageM) (k : Int) : Ent := .row 129 2 l.length (pageMk k)
theorem c_laws_heldPageS (l : List PageM) (k : Int) (hl : l.length ≤ 1099511627776) (hk : 0 ≤ k) (hk2 : k ≤ 1099511627776) : FnOK Try.prog 102 [.d (pagesM l k), di k] (ri (k + 2 * l.length)) := by
  refine fn_of lv102 Try.func102 rfl rfl (by kernel_rfl) rfl ?_
  refine ⟨{ i : Nat // i ≤ l.length }, fun i => ⟨frL [(0, .d (pagesM l k)), (1, di (k + 2 * (i.1 : Int))), (5, di i.1)], hpL [], 0, 0⟩, fun i => l.length - i.1, ⟨0, by omega⟩,
    le_of [] rfl rfl rfl rfl trivial (tellFr_d rfl (DLe.refl _) (tellFr_v rfl (congrArg (Value.int .i64) (show k = k + 2 * ((0 : Nat) : Int) by omega)) (tellFr_v rfl rfl trivial))), ?_⟩
  rintro ⟨i, hi⟩
  refine bsplit_intro (fun h => ?_) (fun h => ?_)
  · have h : i < l.length := by simp at h; exact h
    have w1 : IntKind.i64.wrap (k + 2 * (i : Int) + 1) = k + 2 * (i : Int) + 1 := wrap_i64 _ (by omega) (by omega)
    have w2 : IntKind.i64.wrap (k + 2 * (i : Int) + 1 + 1) = k + 2 * ((i + 1 : Nat) : Int) := by rw [wrap_i64 _ (by omega) (by omega)]; omega
    refine ask_intro ⟨by omega, by simp; omega, rfl⟩ ?_
    refine bsplit_of_false (show (k + 2 * (i : Int) != k + 2 * (i : Int)) = false by simp) ?_
    refine ask_intro ⟨by omega, by simp; omega, rfl⟩ ?_
    refine bsplit_of_false (show (k + 2 * (i : Int) + 1 != IntKind.i64.wrap (k + 2 * (i : Int) + 1)) = false by rw [w1]; simp) ?_
    exact ⟨⟨i + 1, by omega⟩, le_of [] rfl rfl rfl rfl trivial (tellFr_d rfl (DLe.refl _) (tellFr_v rfl (congrArg (Value.int .i64) (by rw [w1, w2])) (tellFr_v rfl (congrArg (Value.int .i64) (wrap_i64 (i + 1) (by omega) (by omega) : IntKind.i64.wrap ((i : Int) + 1) = ((i + 1 : Nat) : Int))) trivial))), by show l.length - (i + 1) < l.length - i; omega⟩
  · simp at h
    have e : i = l.length := by omega
    subst e
    exact ⟨⟨rfl, trivial⟩, rfl⟩
theorem c_laws_eqPagesResult (p q : Int × List PageM) (hs : p.2.length ≤ 9223372036854775807) : FnOK Try.prog 48 [pgsLV p, pgsLV q] (rb (decide (p = q))) := by
  refine fn_of lv48 Try.func48 rfl rfl (by kernel_rfl) rfl ?_
  repeat' (first | refine bsplit_true ?_ | refine bsplit_false ?_ | refine .inl ⟨_, _, rfl, c_laws_eqPageS p.2 q.2 hs, rfl, ?_⟩ | refine bsplit_intro (fun h => ?_) (fun h => ?_))
  all_goals refine ⟨⟨congrArg Value.bool ?_, trivial⟩, rfl⟩
  all_goals (obtain ⟨a1, a2⟩ := p; obtain ⟨b1, b2⟩ := q; simp_all)
theorem c_laws_markPagesResult (p : Int × List PageM) (k : Int) (hf : p.2.length ≤ 1099511627776) (hk : 0 ≤ k) (hk2 : k ≤ 1099511627776) : MutOK Try.prog 53 [.agg [di p.1, .row 0], di k] 1 [(0, rowP p.2)] (di (k + 2 * p.2.length)) 1 [(0, rowPM p.2 k)] := by
  refine mut_fn_of lv53 Try.func53 rfl rfl (by kernel_rfl) rfl [] ?_
  refine .inr ⟨rfl, use_mut ⟨_, _, _, _, _, _, rfl, rfl, c_laws_markPageS p.2 k hf hk hk2, rfl, ?_⟩⟩
  exact chk_intro (by kernel_rfl) ⟨tellV_v rfl rfl, tellHp_row rfl rfl rfl (fun j hj => rfl) tellHp_nil⟩
theorem c_laws_heldPagesResult (p : Int × List PageM) (k : Int) (hf : p.2.length ≤ 1099511627776) (hk : 0 ≤ k) (hk2 : k ≤ 1099511627776) : FnOK Try.prog 54 [.agg [di p.1, .d (pagesM p.2 k)], di k] (ri (k + 2 * p.2.length)) := by
  refine fn_of lv54 Try.func54 rfl rfl (by kernel_rfl) rfl ?_
  refine .inl ⟨_, _, rfl, c_laws_heldPageS p.2 k hf hk hk2, rfl, ?_⟩
  refine bsplit_of_false (decide_eq_false (show ¬ k + 2 * (p.2.length : Int) < 0 by omega)) ?_
  exact ⟨⟨rfl, trivial⟩, rfl⟩
end Go.Proofs.Ytfcekiehcchebaa.L

/- Results that hold a lonely machine: contracts. -/
set_option linter.unusedVariables false
set_option linter.unusedSimpArgs false
set_option maxRecDepth 100000
namespace Go.Proofs.Ytfcekiehcchebaa.L
open Go.RowKit
abbrev soRLV (p : Int × SoloM) : LV := .agg [di p.1, .d (ints p.2.hart.regs), di p.2.hart.pc, .d (ints p.2.hart.csr), dv (.bool p.2.hart.halted), dv (.bool p.2.hart.waiting), dv (.bool p.2.hart.rung), di p.2.hart.done, .d (ints p.2.hart.inp), .d (ints p.2.hart.out), .d (Go.Proofs.Ytfcekiehcchebaa.L.pages p.2.pages), .d (ints p.2.mem)]
abbrev soRR (p : Int × SoloM) : RV1 := .agg [.v (.int .i64 p.1), oInts p.2.hart.regs, .v (.int .i64 p.2.hart.pc), oInts p.2.hart.csr, .v (.bool p.2.hart.halted), .v (.bool p.2.hart.waiting), .v (.bool p.2.hart.rung), .v (.int .i64 p.2.hart.done), oInts p.2.hart.inp, oInts p.2.hart.out, oPages p.2.pages, oInts p.2.mem]
def soloZ : SoloM := ⟨hartZ, [], []⟩
theorem soloZ_small : soloZ.small := ⟨⟨by decide, by decide, by decide, by decide⟩, by decide, by decide⟩
theorem soloZ_few : soloZ.hart.few := ⟨by decide, by decide, by decide, by decide⟩
theorem c_laws_eqSoloResult (p q : Int × SoloM) (hs : p.2.small) : FnOK Try.prog 60 [soRLV p, soRLV q] (rb (decide (p = q))) := by
  have c1 := c_laws_eqSolo p.2 q.2 hs
  obtain ⟨v, hv⟩ : ∃ v, v = decide (p = q) := ⟨_, rfl⟩
  rw [← hv]
  refine fn_of lv60 Try.func60 rfl rfl (by kernel_rfl) rfl ?_
  repeat' (first | refine bsplit_true ?_ | refine bsplit_false ?_ | refine .inl ⟨_, _, rfl, c1, rfl, ?_⟩ | refine bsplit_intro (fun h => ?_) (fun h => ?_))
  all_goals refine ⟨⟨congrArg Value.bool ?_, trivial⟩, rfl⟩
  all_goals (rw [hv]; obtain ⟨a1, a2⟩ := p; obtain ⟨b1, b2⟩ := q; simp_all)
theorem c_laws_markSoloResult (p : Int × SoloM) (k : Int) (hf : p.2.hart.few) (hp : p.2.pages.length ≤ 1048576) (hm : p.2.mem.length ≤ 1048576) (hk : 0 ≤ k) (hk2 : k ≤ 1048576) :
    MutOK Try.prog 61 [.agg (di p.1 :: (hartK p.2.hart 0 1 2 3 ++ [.row 4, .row 5])), di k] 6 (soloRows p.2) (di (sK6 p.2 k)) 6 (soloMarks p.2 k) := by
  have c1 := c_laws_markSolo p.2 k hf hp hm hk hk2
  refine mut_fn_of lv61 Try.func61 rfl rfl (by kernel_rfl) rfl [] ?_
  refine .inr ⟨rfl, use_mut ⟨_, _, _, _, _, _, rfl, rfl, c1, rfl, ?_⟩⟩
  exact chk_intro (by kernel_rfl) ⟨tellV_v rfl rfl, tellHp_row rfl rfl rfl (fun j hj => rfl) (tellHp_row rfl rfl rfl (fun j hj => rfl) (tellHp_row rfl rfl rfl (fun j hj => rfl) (tellHp_row rfl rfl rfl (fun j hj => rfl) (tellHp_row rfl rfl rfl (fun j hj => rfl) (tellHp_row rfl rfl rfl (fun j hj => rfl) tellHp_nil)))))⟩
theorem sK_b (x : SoloM) (k : Int) (hf : x.hart.few) (hp : x.pages.length ≤ 1048576) (hm : x.mem.length ≤ 1048576) (hk : 0 ≤ k) (hk2 : k ≤ 1048576) : 0 ≤ sK4 x k ∧ sK4 x k ≤ 1099511627776 ∧ 0 ≤ sK5 x k ∧ sK5 x k ≤ 1099511627776 ∧ 0 ≤ sK6 x k ∧ sK6 x k ≤ 1099511627776 := by
  have := hf.regs; have := hf.csr; have := hf.inp; have := hf.out
  unfold sK6 sK5 sK4 hK4 hK3 hK2 hK1
  omega
abbrev soloMk (x : SoloM) (k : Int) : List LV := [datM x.hart.regs k, di x.hart.pc, datM x.hart.csr (hK1 x.hart k), dv (.bool x.hart.halted), dv (.bool x.hart.waiting), dv (.bool x.hart.rung), di x.hart.done, datM x.hart.inp (hK2 x.hart k), datM x.hart.out (hK3 x.hart k), .d (pagesM x.pages (sK4 x k)), datM x.mem (sK5 x k)]
theorem c_laws_heldSolo (x : SoloM) (k : Int) (hf : x.hart.few) (hp : x.pages.length ≤ 1048576) (hm : x.mem.length ≤ 1048576) (hk : 0 ≤ k) (hk2 : k ≤ 1048576) :
    FnOK Try.prog 109 [.agg (soloMk x k), di k] (ri (sK6 x k)) := by
  obtain ⟨b1, b2, b3, b4, b5, b6⟩ := sK_b x k hf hp hm hk hk2
  have c1 := c_laws_heldHart x.hart k hf hk hk2
  have c2 := c_laws_heldPageS x.pages (sK4 x k) (by omega) b1 b2
  have c3 := c_laws_heldInt64S (sK5 x k) x.mem.length (by omega) b3 b4
  refine fn_of lv109 Try.func109 rfl rfl (by kernel_rfl) rfl ?_
  refine .inl ⟨_, _, rfl, c1, rfl, ?_⟩
  refine bsplit_of_false (decide_eq_false (show ¬ sK4 x k < 0 by omega)) ?_
  refine .inl ⟨_, _, rfl, c2, rfl, ?_⟩
  refine bsplit_of_false (decide_eq_false (show ¬ sK5 x k < 0 by omega)) ?_
  refine .inl ⟨_, _, rfl, c3, rfl, ?_⟩
  refine bsplit_of_false (decide_eq_false (show ¬ sK6 x k < 0 by omega)) ?_
  exact ⟨⟨rfl, trivial⟩, rfl⟩
theorem c_laws_heldSoloResult (p : Int × SoloM) (k : Int) (hf : p.2.hart.few) (hp : p.2.pages.length ≤ 1048576) (hm : p.2.mem.length ≤ 1048576) (hk : 0 ≤ k) (hk2 : k ≤ 1048576) :
    FnOK Try.prog 62 [.agg (di p.1 :: soloMk p.2 k), di k] (ri (sK6 p.2 k)) := by
  obtain ⟨b1, b2, b3, b4, b5, b6⟩ := sK_b p.2 k hf hp hm hk hk2
  have c1 := c_laws_heldSolo p.2 k hf hp hm hk hk2
  refine fn_of lv62 Try.func62 rfl rfl (by kernel_rfl) rfl ?_
  refine .inl ⟨_, _, rfl, c1, rfl, ?_⟩
  refine bsplit_of_false (decide_eq_false (show ¬ sK6 p.2 k < 0 by omega)) ?_
  exact ⟨⟨rfl, trivial⟩, rfl⟩
end Go.Proofs.Ytfcekiehcchebaa.L

/- Policies: what the law functions compute on them (to, size, equality): contracts. -/
set_option linter.unusedVariables false
set_option linter.unusedSimpArgs false
set_option maxRecDepth 100000
namespace Go.Proofs.Ytfcekiehcchebaa.L
open Go.RowKit
structure LaneM where
  frm : Int
  to : Int
  page : Int
  af : Int
  at_ : Int
  deriving DecidableEq
abbrev laneD (p : LaneM) : List D := [dI p.frm, dI p.to, dI p.page, dI p.af, dI p.at_]
abbrev laneLV (p : LaneM) : LV := .agg [di p.frm, di p.to, di p.page, di p.af, di p.at_]
abbrev lanesF (l : List LaneM) (i : Nat) : List D := laneD (l.getD i ⟨0, 0, 0, 0, 0⟩)
abbrev lanes (l : List LaneM) : D := .l l.length (lanesF l)
structure BellM where
  frm : Int
  to : Int
  deriving DecidableEq
abbrev bellD (p : BellM) : List D := [dI p.frm, dI p.to]
abbrev bellLV (p : BellM) : LV := .agg [di p.frm, di p.to]
abbrev bellsF (l : List BellM) (i : Nat) : List D := bellD (l.getD i ⟨0, 0⟩)
abbrev bells (l : List BellM) : D := .l l.length (bellsF l)
structure SlotM where
  guest : Int
  steps : Int
  deriving DecidableEq
abbrev slotD (p : SlotM) : List D := [dI p.guest, dI p.steps]
abbrev slotLV (p : SlotM) : LV := .agg [di p.guest, di p.steps]
abbrev slotsF (l : List SlotM) (i : Nat) : List D := slotD (l.getD i ⟨0, 0⟩)
abbrev slots (l : List SlotM) : D := .l l.length (slotsF l)
end Go.Proofs.Ytfcekiehcchebaa.L

/- Policies: read, measured, compared: contracts. -/
set_option linter.unusedVariables false
set_option linter.unusedSimpArgs false
set_option maxRecDepth 100000
namespace Go.Proofs.Ytfcekiehcchebaa.L
open Go.RowKit
abbrev ownsF (l : List (List Int)) (i : Nat) : List D := [ints (l.getD i [])]
abbrev owns (l : List (List Int)) : D := .l l.length (ownsF l)
abbrev lenF (l : List (List Int)) (i : Nat) : Nat := (l.getD i []).length
abbrev inF (l : List (List Int)) (i j : Nat) : List D := intsF (l.getD i []) j
abbrev oOwns (l : List (List Int)) : RC := .ownn 22 2 1 l.length (lenF l) (inF l)
def sumN (l : List (List Int)) : Nat := (l.map List.length).sum
theorem sumN_take (l : List (List Int)) (i : Nat) (h : i < l.length) : sumN (l.take (i + 1)) = sumN (l.take i) + (l.getD i []).length := by
  unfold sumN
  rw [List.take_succ_eq_append_getElem h, List.map_append, List.sum_append, getD_at _ h]
  simp
theorem sumN_le (l : List (List Int)) (i : Nat) : sumN (l.take i) ≤ sumN l := by
  unfold sumN
  conv => rhs; rw [← List.take_append_drop i l, List.map_append, List.sum_append]
  omega
theorem sumN_get (l : List (List Int)) (i : Nat) (h : i < l.length) : (l.getD i []).length ≤ sumN l := by
  have := sumN_take l i h
  have := sumN_le l (i + 1)
  omega
def szO (l : List (List Int)) (q : Int) : Int := if q - (l.length + sumN l : Nat) < 0 then -1 else q - (l.length + sumN l : Nat)
/-! ## a policy -/
structure PolM where
  own : List (List Int)
  lns : List LaneM
  bls : List BellM
  pln : List SlotM
  deriving DecidableEq
abbrev polD (x : PolM) : List D := [owns x.own, lanes x.lns, bells x.bls, slots x.pln]
abbrev polLV (x : PolM) : LV := .agg [.d (owns x.own), .d (lanes x.lns), .d (bells x.bls), .d (slots x.pln)]
structure PolM.small (x : PolM) : Prop where
  own : x.own.length * 24 ≤ 140737488355328
  ins : ∀ i, i < x.own.length → (x.own.getD i []).length * 8 ≤ 140737488355328
  lns : x.lns.length * 40 ≤ 140737488355328
  bls : x.bls.length * 16 ≤ 140737488355328
  pln : x.pln.length * 16 ≤ 140737488355328
/-- how many things a policy has -/
def PolM.size (x : PolM) : Nat := x.own.length + sumN x.own + x.lns.length + x.bls.length + x.pln.length
def szP (x : PolM) (q : Int) : Int := if q - (x.size : Int) < 0 then -1 else q - (x.size : Int)
end Go.Proofs.Ytfcekiehcchebaa.L

/- What is wrong with a policy: the small functions: contracts. -/
set_option linter.unusedVariables false
set_option linter.unusedSimpArgs false
set_option maxRecDepth 100000
namespace Go.Proofs.Ytfcekiehcchebaa.L
open Go.RowKit
theorem beqc (v : Int) : (fun a : Int => v == a) = fun a => a == v := funext fun a => by
  by_cases h : v = a
  · subst h; rfl
  · rw [beq_eq_false_iff_ne.2 h, beq_eq_false_iff_ne.2 (Ne.symm h)]
abbrev hasI (l : List Int) (v : Int) : Bool := l.any fun a => a == v
theorem wrap1 {i n : Nat} (h : i < n) (hn : n ≤ 4611686018427387904) : IntKind.i64.wrap ((i : Int) + 1) = ((i + 1 : Nat) : Int) := wrap_i64 (i + 1) (by omega) (by omega)
theorem bellBeq (b : BellM) : (fun a : BellM => [b.frm, b.to] == [a.frm, a.to]) = fun a => a == b := funext fun a => by
  by_cases h : a = b
  · subst h; simp
  · rw [beq_eq_false_iff_ne.2 h]
    refine beq_eq_false_iff_ne.2 (fun e => h ?_)
    obtain ⟨a1, a2⟩ := a; obtain ⟨b1, b2⟩ := b
    simp only [List.cons.injEq, and_true] at e
    rw [e.1, e.2]
/-! ## guests, owners, ends -/
abbrev polP (x : PolM) : LV := .dptr (polD x)
def guestB (n : Nat) (g : Int) : Bool := inR g 0 ((n : Int) - 1)
theorem wrapm {n : Nat} (hn : n ≤ 4611686018427387904) : IntKind.i64.wrap ((n : Int) - 1) = (n : Int) - 1 := wrap_i64 _ (by omega) (by omega)
def ownerP (l : List (List Int)) (v : Int) : Int := idxG (fun r => hasI r v) l 0
def endsF (n : Nat) (a b : Int) : Int := bif !guestB n a || !guestB n b then 4 else bif a == b then 1 else 0
end Go.Proofs.Ytfcekiehcchebaa.L

/- Words that are fed to a lonely machine: contracts. -/
set_option linter.unusedVariables false
set_option linter.unusedSimpArgs false
set_option maxRecDepth 100000
namespace Go.Proofs.Ytfcekiehcchebaa.L
open Go.RowKit
/-- words put at a place -/
def putL (l : List Int) (a : Nat) (w : List Int) : List Int := l.take a ++ w ++ l.drop (a + w.length)
theorem putL_len {l : List Int} {a : Nat} {w : List Int} (h : a + w.length ≤ l.length) : (putL l a w).length = l.length := by
  unfold putL; simp; omega
theorem putL_get {l : List Int} {a : Nat} {w : List Int} (h : a + w.length ≤ l.length) (j : Nat) : (putL l a w).getD j 0 = if a ≤ j ∧ j < a + w.length then w.getD (j - a) 0 else l.getD j 0 := by
  unfold putL
  simp only [List.getD]
  by_cases h1 : j < a
  · rw [if_neg (by omega), List.append_assoc, List.getElem?_append_left (by simp; omega), List.getElem?_take_of_lt h1]
  · by_cases h2 : j < a + w.length
    · rw [if_pos ⟨by omega, h2⟩, List.append_assoc, List.getElem?_append_right (by simp; omega), List.getElem?_append_left (by simp; omega)]
      rw [List.length_take, Nat.min_eq_left (by omega)]
    · rw [if_neg (by omega), List.getElem?_append_right (by simp; omega), List.getElem?_drop]
      congr 2
      simp; omega
def feedSolo (x : SoloM) (p : Int) (w : List Int) : Int × SoloM := if soloFault x = 0 then (bif !inR p 0 7 then (3, soloZ) else bif ((w.length : Int) != 8) || !w.all isW then (1, soloZ) else (0, { x with mem := putL x.mem (8 * p.toNat) w })) else (soloFault x, soloZ)
theorem c_slices_Clone_Page (l : List PageM) (hl : l.length * 16 ≤ 140737488355328) : FnOK Try.prog 154 [.d (Go.Proofs.Ytfcekiehcchebaa.L.pages l)] (.r (.one (oPages l))) := by
  refine fn_of lv154 Try.func154 rfl rfl (by kernel_rfl) rfl ?_
  rintro r hr
  cases r with
  | true =>
    refine bsplit_true ?_
    have : l.length = 0 := by
      rcases Nat.eq_zero_or_pos l.length with h | h
      · exact h
      · exact absurd (hr h) (by simp)
    exact ⟨⟨⟨this, rfl⟩, trivial⟩, rfl⟩
  | false =>
    refine bsplit_false ?_
    refine ask_intro ⟨by show (0 + l.length) * 16 ≤ 140737488355328; omega, by show 0 + l.length ≤ 9223372036854775807; omega, fun i hi => rfl⟩ ?_
    exact ⟨⟨⟨rfl, rfl, Nat.zero_add _, fun i hi => ⟨rfl, rfl⟩⟩, trivial⟩, rfl⟩
theorem c_impl_ownPages (l : List PageM) (hl : l.length * 16 ≤ 140737488355328) : FnOK Try.prog 141 [.d (Go.Proofs.Ytfcekiehcchebaa.L.pages l)] (.r (.one (oPages l))) := by
  have c1 := c_slices_Clone_Page l hl
  refine fn_of lv141 Try.func141 rfl rfl (by kernel_rfl) rfl ?_
  refine .inl ⟨_, _, rfl, c1, rfl, ?_⟩
  exact ⟨⟨⟨rfl, rfl, rfl, fun i hi => ⟨rfl, rfl⟩⟩, trivial⟩, rfl⟩
theorem c_spec_l3Copy (l : List Int) (hl : l.length * 8 ≤ 140737488355328) : FnOK Try.prog 140 [.d (ints l)] (.r (.one (oInts l))) := by
  refine fn_of lv140 Try.func140 rfl rfl (by kernel_rfl) rfl ?_
  refine ask_intro ⟨by show (0 + l.length) * 8 ≤ 140737488355328; omega, by show 0 + l.length ≤ 9223372036854775807; omega, fun i hi => rfl⟩ ?_
  exact ⟨⟨⟨rfl, rfl, Nat.zero_add _, fun i hi => ⟨rfl, rfl⟩⟩, trivial⟩, rfl⟩
theorem c_spec_l11Copy (x : SoloM) (hs : x.small) : FnOK Try.prog 107 [soloLV x] (.r (soloR x)) := by
  have hp := hs.pages
  have c1 := c_spec_l8Copy x.hart hs.hart
  have c2 := c_spec_l3Copy x.mem hs.mem
  refine fn_of lv107 Try.func107 rfl rfl (by kernel_rfl) rfl ?_
  refine .inl ⟨_, _, rfl, c1, rfl, ?_⟩
  refine ask_intro ⟨by show (0 + x.pages.length) * 16 ≤ 140737488355328; omega, by show 0 + x.pages.length ≤ 9223372036854775807; omega, fun i hi => rfl⟩ ?_
  refine .inl ⟨_, _, rfl, c2, rfl, ?_⟩
  refine chk_intro (by kernel_rfl) ?_
  exact ⟨⟨⟨rfl, rfl, rfl, fun i hi => ⟨rfl, rfl⟩⟩, rfl, ⟨rfl, rfl, rfl, fun i hi => ⟨rfl, rfl⟩⟩, rfl, rfl, rfl, rfl, ⟨rfl, rfl, rfl, fun i hi => ⟨rfl, rfl⟩⟩, ⟨rfl, rfl, rfl, fun i hi => ⟨rfl, rfl⟩⟩, ⟨rfl, rfl, Nat.zero_add _, fun i hi => ⟨rfl, rfl⟩⟩, ⟨rfl, rfl, rfl, fun i hi => ⟨rfl, rfl⟩⟩, trivial⟩, rfl⟩
theorem putL_F {l : List Int} {a : Nat} {w : List Int} (h : a + w.length ≤ l.length) (j : Nat) : putF a w.length (intsF w) (intsF l) j = intsF (putL l a w) j := by
  show _ = [D.v (.int .i64 ((putL l a w).getD j 0))]
  rw [putL_get h]
  unfold putF
  split <;> rfl
theorem c_impl_Solo_fed (x : SoloM) (hs : x.small) (p : Int) (w : List Int) (h0 : 0 ≤ p) (h7 : p ≤ 7) (hw : w.length = 8) (hm : x.mem.length = 64) : FnOK Try.prog 108 [soloLV x, di p, .d (ints w)] (.r (soloR { x with mem := putL x.mem (8 * p.toNat) w })) := by
  have hp := hs.pages
  have c1 := c_slices_Clone x.mem hs.mem
  have c2 := c_impl_Hart_own x.hart hs.hart
  have c3 := c_impl_ownPages x.pages hp
  have ew : IntKind.i64.wrap (p * 8) = p * 8 := wrap_i64 _ (by omega) (by omega)
  have e1 : 0 + (IntKind.i64.wrap (p * 8)).toNat = 8 * p.toNat := by rw [ew]; omega
  have e2 : Nat.min w.length ((0 + (((x.mem.length - 0 : Nat) : Int)).toNat) - (0 + (IntKind.i64.wrap (p * 8)).toNat)) = w.length := by
    rw [e1, hw]
    show min 8 _ = 8
    omega
  have hle : 8 * p.toNat + w.length ≤ x.mem.length := by omega
  have hF : ∀ j, putF (0 + (IntKind.i64.wrap (p * 8)).toNat) (Nat.min w.length ((0 + (((x.mem.length - 0 : Nat) : Int)).toNat) - (0 + (IntKind.i64.wrap (p * 8)).toNat))) (intsF w) (intsF x.mem) j = intsF (putL x.mem (8 * p.toNat) w) j := fun j => by
    rw [e2, e1]
    exact putL_F hle j
  refine fn_of lv108 Try.func108 rfl rfl (by kernel_rfl) rfl ?_
  refine .inl ⟨_, _, rfl, c1, rfl, ?_⟩
  refine ask_intro ⟨by rw [ew]; omega, by show IntKind.i64.wrap (p * 8) ≤ ((x.mem.length - 0 : Nat) : Int); rw [ew]; omega, by show ((0 : Nat) : Int) + ((x.mem.length - 0 : Nat) : Int) ≤ (x.mem.length : Int); omega, .inr rfl⟩ ?_
  refine ask_intro (fun i hi => rfl) ?_
  refine .inl ⟨_, _, rfl, c2, rfl, ?_⟩
  refine .inl ⟨_, _, rfl, c3, rfl, ?_⟩
  refine chk_intro (by kernel_rfl) ?_
  exact ⟨⟨⟨rfl, rfl, rfl, fun i hi => ⟨rfl, rfl⟩⟩, rfl, ⟨rfl, rfl, rfl, fun i hi => ⟨rfl, rfl⟩⟩, rfl, rfl, rfl, rfl, ⟨rfl, rfl, rfl, fun i hi => ⟨rfl, rfl⟩⟩, ⟨rfl, rfl, rfl, fun i hi => ⟨rfl, rfl⟩⟩, ⟨rfl, rfl, rfl, fun i hi => ⟨rfl, rfl⟩⟩, ⟨rfl, rfl, (putL_len hle).symm, fun i hi => ⟨hF i, rfl⟩⟩, trivial⟩, rfl⟩
theorem c_impl_FeedSolo (x : SoloM) (hs : x.small) (hp : x.pages.length ≤ 1048576) (hm : x.mem.length ≤ 1048576) (p : Int) (w : List Int) (hw : w.length ≤ 1048576) : FnOK Try.prog 59 [soloLV x, di p, .d (ints w)] (.r (soRR (feedSolo x p w))) := by
  have c1 := c_impl_SoloFault x hs hp hm
  have c2 := c_impl_within p 0 7
  have c3 := c_impl_areWords w (by omega)
  have c4 := c_impl_Solo_fed x hs p w
  have hmm := @soloFault_mem x
  obtain ⟨r, hr⟩ : ∃ r, r = feedSolo x p w := ⟨_, rfl⟩
  rw [← hr]
  unfold feedSolo at hr
  generalize soloFault x = e at *
  by_cases he : e = 0
  rotate_left
  · rw [if_neg he] at hr
    subst hr
    refine fn_of lv59 Try.func59 rfl rfl (by kernel_rfl) rfl ?_
    refine .inl ⟨_, _, rfl, c1, rfl, ?_⟩
    refine bsplit_of_true (by simpa using he) ?_
    exact ⟨⟨rfl, ⟨rfl, rfl⟩, rfl, ⟨rfl, rfl⟩, rfl, rfl, rfl, rfl, ⟨rfl, rfl⟩, ⟨rfl, rfl⟩, ⟨rfl, rfl⟩, ⟨rfl, rfl⟩, trivial⟩, rfl⟩
  rw [if_pos he] at hr
  subst he
  have hmm := hmm rfl
  cases hi : inR p 0 7 with
  | false =>
    rw [hi] at hr c2
    have hr : r = (3, soloZ) := hr
    subst hr
    refine fn_of lv59 Try.func59 rfl rfl (by kernel_rfl) rfl ?_
    refine .inl ⟨_, _, rfl, c1, rfl, ?_⟩
    repeat' (first | refine bsplit_true ?_ | refine bsplit_false ?_)
    refine .inl ⟨_, _, rfl, c2, rfl, ?_⟩
    repeat' (first | refine bsplit_true ?_ | refine bsplit_false ?_)
    exact ⟨⟨rfl, ⟨rfl, rfl⟩, rfl, ⟨rfl, rfl⟩, rfl, rfl, rfl, rfl, ⟨rfl, rfl⟩, ⟨rfl, rfl⟩, ⟨rfl, rfl⟩, ⟨rfl, rfl⟩, trivial⟩, rfl⟩
  | true =>
    have hb := inR_iff.1 hi
    rw [hi] at hr c2
    by_cases h8 : w.length = 8
    rotate_left
    · have e8 : ((w.length : Int) != 8) = true := by simp; omega
      rw [e8] at hr
      have hr : r = (1, soloZ) := hr
      subst hr
      refine fn_of lv59 Try.func59 rfl rfl (by kernel_rfl) rfl ?_
      refine .inl ⟨_, _, rfl, c1, rfl, ?_⟩
      repeat' (first | refine bsplit_true ?_ | refine bsplit_false ?_)
      refine .inl ⟨_, _, rfl, c2, rfl, ?_⟩
      repeat' (first | refine bsplit_true ?_ | refine bsplit_false ?_)
      refine bsplit_of_true e8 ?_
      repeat' (first | refine bsplit_true ?_ | refine bsplit_false ?_)
      exact ⟨⟨rfl, ⟨rfl, rfl⟩, rfl, ⟨rfl, rfl⟩, rfl, rfl, rfl, rfl, ⟨rfl, rfl⟩, ⟨rfl, rfl⟩, ⟨rfl, rfl⟩, ⟨rfl, rfl⟩, trivial⟩, rfl⟩
    have e8 : ((w.length : Int) != 8) = false := by simp; omega
    rw [e8] at hr
    cases hw2 : w.all isW with
    | false =>
      rw [hw2] at hr c3
      have hr : r = (1, soloZ) := hr
      subst hr
      refine fn_of lv59 Try.func59 rfl rfl (by kernel_rfl) rfl ?_
      refine .inl ⟨_, _, rfl, c1, rfl, ?_⟩
      repeat' (first | refine bsplit_true ?_ | refine bsplit_false ?_)
      refine .inl ⟨_, _, rfl, c2, rfl, ?_⟩
      repeat' (first | refine bsplit_true ?_ | refine bsplit_false ?_)
      refine bsplit_of_false e8 ?_
      repeat' (first | refine bsplit_true ?_ | refine bsplit_false ?_)
      refine .inl ⟨_, _, rfl, c3, rfl, ?_⟩
      repeat' (first | refine bsplit_true ?_ | refine bsplit_false ?_)
      exact ⟨⟨rfl, ⟨rfl, rfl⟩, rfl, ⟨rfl, rfl⟩, rfl, rfl, rfl, rfl, ⟨rfl, rfl⟩, ⟨rfl, rfl⟩, ⟨rfl, rfl⟩, ⟨rfl, rfl⟩, trivial⟩, rfl⟩
    | true =>
      rw [hw2] at hr c3
      have hr : r = (0, { x with mem := putL x.mem (8 * p.toNat) w }) := hr
      have c4 := c4 hb.1 hb.2 h8 hmm
      subst hr
      refine fn_of lv59 Try.func59 rfl rfl (by kernel_rfl) rfl ?_
      refine .inl ⟨_, _, rfl, c1, rfl, ?_⟩
      repeat' (first | refine bsplit_true ?_ | refine bsplit_false ?_)
      refine .inl ⟨_, _, rfl, c2, rfl, ?_⟩
      repeat' (first | refine bsplit_true ?_ | refine bsplit_false ?_)
      refine bsplit_of_false e8 ?_
      repeat' (first | refine bsplit_true ?_ | refine bsplit_false ?_)
      refine .inl ⟨_, _, rfl, c3, rfl, ?_⟩
      repeat' (first | refine bsplit_true ?_ | refine bsplit_false ?_)
      refine .inl ⟨_, _, rfl, c4, rfl, ?_⟩
      exact ⟨⟨rfl, ⟨rfl, rfl, rfl, fun i hi => ⟨rfl, rfl⟩⟩, rfl, ⟨rfl, rfl, rfl, fun i hi => ⟨rfl, rfl⟩⟩, rfl, rfl, rfl, rfl, ⟨rfl, rfl, rfl, fun i hi => ⟨rfl, rfl⟩⟩, ⟨rfl, rfl, rfl, fun i hi => ⟨rfl, rfl⟩⟩, ⟨rfl, rfl, rfl, fun i hi => ⟨rfl, rfl⟩⟩, ⟨rfl, rfl, rfl, fun i hi => ⟨rfl, rfl⟩⟩, trivial⟩, rfl⟩
abbrev soZ : List LV := [di 0, .d (.v (.slice none 0 0)), di 0, .d (.v (.slice none 0 0)), dv (.bool false), dv (.bool false), dv (.bool false), di 0, .d (.v (.slice none 0 0)), .d (.v (.slice none 0 0)), .d (.v (.slice none 0 0)), .d (.v (.slice none 0 0))]
theorem putF_step {l w : List Int} {a i : Nat} (k : Nat) (hk : k = a + i) (j : Nat) : (if j = k then splice (putF a i (intsF w) (intsF l) j) 0 [D.v (.int .i64 (w.getD i 0))] else putF a i (intsF w) (intsF l) j) = putF a (i + 1) (intsF w) (intsF l) j := by
  subst hk
  unfold putF
  by_cases e : j = a + i
  · subst e
    rw [if_pos rfl, if_neg (by omega), if_pos (by omega)]
    show [D.v (.int .i64 (w.getD i 0))] = [D.v (.int .i64 (w.getD (a + i - a) 0))]
    rw [show a + i - a = i by omega]
  · rw [if_neg e]
    by_cases h : a ≤ j ∧ j < a + i
    · rw [if_pos h, if_pos (by omega)]
    · rw [if_neg h, if_neg (by omega)]
set_option maxHeartbeats 1600000 in
theorem c_spec_FeedSolo (x : SoloM) (hs : x.small) (hp : x.pages.length ≤ 1048576) (hm : x.mem.length ≤ 1048576) (p : Int) (w : List Int) (hw : w.length ≤ 1048576) : FnOK Try.prog 58 [soloLV x, di p, .d (ints w)] (.r (soRR (feedSolo x p w))) := by
  have c1 := c_spec_SoloFault x hs hp hm
  have c2 := c_spec_l1In p 0 7
  have c3 := c_spec_l8All w (by omega)
  have c4 := c_spec_l11Copy x hs
  have hmm := @soloFault_mem x
  obtain ⟨r, hr⟩ : ∃ r, r = feedSolo x p w := ⟨_, rfl⟩
  rw [← hr]
  unfold feedSolo at hr
  generalize soloFault x = e at *
  by_cases he : e = 0
  rotate_left
  · rw [if_neg he] at hr
    subst hr
    refine fn_of lv58 Try.func58 rfl rfl (by kernel_rfl) rfl ?_
    refine .inl ⟨_, _, rfl, c1, rfl, ?_⟩
    refine bsplit_of_true (by simpa using he) ?_
    exact ⟨⟨rfl, ⟨rfl, rfl⟩, rfl, ⟨rfl, rfl⟩, rfl, rfl, rfl, rfl, ⟨rfl, rfl⟩, ⟨rfl, rfl⟩, ⟨rfl, rfl⟩, ⟨rfl, rfl⟩, trivial⟩, rfl⟩
  rw [if_pos he] at hr
  subst he
  have hmm := hmm rfl
  cases hi : inR p 0 7 with
  | false =>
    rw [hi] at hr c2
    have hr : r = (3, soloZ) := hr
    subst hr
    refine fn_of lv58 Try.func58 rfl rfl (by kernel_rfl) rfl ?_
    refine .inl ⟨_, _, rfl, c1, rfl, ?_⟩
    repeat' (first | refine bsplit_true ?_ | refine bsplit_false ?_)
    refine .inl ⟨_, _, rfl, c2, rfl, ?_⟩
    repeat' (first | refine bsplit_true ?_ | refine bsplit_false ?_)
    exact ⟨⟨rfl, ⟨rfl, rfl⟩, rfl, ⟨rfl, rfl⟩, rfl, rfl, rfl, rfl, ⟨rfl, rfl⟩, ⟨rfl, rfl⟩, ⟨rfl, rfl⟩, ⟨rfl, rfl⟩, trivial⟩, rfl⟩
  | true =>
    have hb := inR_iff.1 hi
    rw [hi] at hr c2
    by_cases h8 : w.length = 8
    rotate_left
    · have e8 : ((w.length : Int) != 8) = true := by simp; omega
      rw [e8] at hr
      have hr : r = (1, soloZ) := hr
      subst hr
      refine fn_of lv58 Try.func58 rfl rfl (by kernel_rfl) rfl ?_
      refine .inl ⟨_, _, rfl, c1, rfl, ?_⟩
      repeat' (first | refine bsplit_true ?_ | refine bsplit_false ?_)
      refine .inl ⟨_, _, rfl, c2, rfl, ?_⟩
      repeat' (first | refine bsplit_true ?_ | refine bsplit_false ?_)
      refine bsplit_of_true e8 ?_
      repeat' (first | refine bsplit_true ?_ | refine bsplit_false ?_)
      exact ⟨⟨rfl, ⟨rfl, rfl⟩, rfl, ⟨rfl, rfl⟩, rfl, rfl, rfl, rfl, ⟨rfl, rfl⟩, ⟨rfl, rfl⟩, ⟨rfl, rfl⟩, ⟨rfl, rfl⟩, trivial⟩, rfl⟩
    have e8 : ((w.length : Int) != 8) = false := by simp; omega
    rw [e8] at hr
    cases hw2 : w.all isW with
    | false =>
      rw [hw2] at hr c3
      have hr : r = (1, soloZ) := hr
      subst hr
      refine fn_of lv58 Try.func58 rfl rfl (by kernel_rfl) rfl ?_
      refine .inl ⟨_, _, rfl, c1, rfl, ?_⟩
      repeat' (first | refine bsplit_true ?_ | refine bsplit_false ?_)
      refine .inl ⟨_, _, rfl, c2, rfl, ?_⟩
      repeat' (first | refine bsplit_true ?_ | refine bsplit_false ?_)
      refine bsplit_of_false e8 ?_
      repeat' (first | refine bsplit_true ?_ | refine bsplit_false ?_)
      refine .inl ⟨_, _, rfl, c3, rfl, ?_⟩
      repeat' (first | refine bsplit_true ?_ | refine bsplit_false ?_)
      exact ⟨⟨rfl, ⟨rfl, rfl⟩, rfl, ⟨rfl, rfl⟩, rfl, rfl, rfl, rfl, ⟨rfl, rfl⟩, ⟨rfl, rfl⟩, ⟨rfl, rfl⟩, ⟨rfl, rfl⟩, trivial⟩, rfl⟩
    | true =>
      rw [hw2] at hr c3
      have hr : r = (0, { x with mem := putL x.mem (8 * p.toNat) w }) := hr
      have hle : 8 * p.toNat + w.length ≤ x.mem.length := by omega
      subst hr
      refine fn_of lv58 Try.func58 rfl rfl (by kernel_rfl) rfl ?_
      refine .inl ⟨_, _, rfl, c1, rfl, ?_⟩
      repeat' (first | refine bsplit_true ?_ | refine bsplit_false ?_)
      refine .inl ⟨_, _, rfl, c2, rfl, ?_⟩
      repeat' (first | refine bsplit_true ?_ | refine bsplit_false ?_)
      refine bsplit_of_false e8 ?_
      repeat' (first | refine bsplit_true ?_ | refine bsplit_false ?_)
      refine .inl ⟨_, _, rfl, c3, rfl, ?_⟩
      repeat' (first | refine bsplit_true ?_ | refine bsplit_false ?_)
      refine .inl ⟨_, _, rfl, c4, rfl, ?_⟩
      refine ⟨{ i : Nat // i ≤ w.length }, fun i => ⟨frL [(1, di p), (2, .d (ints w)), (6, .ptr 10 0), (8, .ptr 11 0), (9, di i.1)], hpL [(10, .box 85 soZ), (11, .box 33 [.row 12, di x.hart.pc, .row 13, dv (.bool x.hart.halted), dv (.bool x.hart.waiting), dv (.bool x.hart.rung), di x.hart.done, .row 14, .row 15, .row 16, .row 17]), (12, rowE x.hart.regs), (13, rowE x.hart.csr), (14, rowE x.hart.inp), (15, rowE x.hart.out), (16, rowP x.pages), (17, .row 2 1 x.mem.length (putF (8 * p.toNat) i.1 (intsF w) (intsF x.mem)))], 100, 0⟩, fun i => w.length - i.1, ⟨0, by omega⟩,
        le_of [(10, 32), (11, 20544), (12, 20512), (13, 20514), (14, 20519), (15, 20520), (16, 20521), (17, 20522)] rfl rfl rfl rfl (tellHp_box rfl rfl ⟨rfl, rfl, rfl, rfl, rfl, rfl, rfl, rfl, rfl, rfl, rfl, rfl, trivial⟩ (tellHp_box rfl rfl ⟨rfl, rfl, rfl, rfl, rfl, rfl, rfl, rfl, rfl, rfl, rfl, trivial⟩ (tellHp_row rfl rfl rfl (fun j hj => rfl) (tellHp_row rfl rfl rfl (fun j hj => rfl) (tellHp_row rfl rfl rfl (fun j hj => rfl) (tellHp_row rfl rfl rfl (fun j hj => rfl) (tellHp_row rfl rfl rfl (fun j hj => rfl) (tellHp_row rfl rfl rfl (fun j hj => by unfold putF; rw [if_neg (by show ¬ (8 * p.toNat ≤ j ∧ j < 8 * p.toNat + 0); omega)]) tellHp_nil))))))))
          (tellFr_v rfl rfl (tellFr_d rfl (DLe.refl _) (tellFr_ptr rfl rfl (tellFr_ptr rfl rfl (tellFr_v rfl rfl trivial))))), ?_⟩
      rintro ⟨i, hi2⟩
      by_cases h1 : i < w.length
      · have hwi := congrArg (Value.int .i64) (wrap1 h1 (by omega))
        have ew : IntKind.i64.wrap (IntKind.i64.wrap (p * 8) + (i : Int)) = p * 8 + (i : Int) := by
          rw [wrap_i64 (p * 8) (by omega) (by omega), wrap_i64 _ (by omega) (by omega)]
        have hidx : (IntKind.i64.wrap (IntKind.i64.wrap (p * 8) + (i : Int))).toNat = 8 * p.toNat + i := by rw [ew]; omega
        refine bsplit_of_true (decide_eq_true (show (i : Int) < (w.length : Int) by omega)) ?_
        refine ask_intro ⟨by omega, by show (i : Int) < (w.length : Int); omega, rfl⟩ ?_
        refine ask_intro ⟨by rw [ew]; omega, by show IntKind.i64.wrap (IntKind.i64.wrap (p * 8) + (i : Int)) < (x.mem.length : Int); rw [ew]; omega⟩ ?_
        refine ask_intro (by show (IntKind.i64.wrap (IntKind.i64.wrap (p * 8) + (i : Int))).toNat < x.mem.length; rw [ew]; omega) ?_
        refine chk_intro (by kernel_rfl) ?_
        exact ⟨⟨i + 1, by omega⟩, le_of [(10, 10), (11, 11), (12, 12), (13, 13), (14, 14), (15, 15), (16, 16), (17, 17)] rfl rfl rfl rfl (tellHp_box rfl rfl ⟨rfl, rfl, rfl, rfl, rfl, rfl, rfl, rfl, rfl, rfl, rfl, rfl, trivial⟩ (tellHp_box rfl rfl ⟨rfl, rfl, rfl, rfl, rfl, rfl, rfl, rfl, rfl, rfl, rfl, trivial⟩ (tellHp_row rfl rfl rfl (fun j hj => rfl) (tellHp_row rfl rfl rfl (fun j hj => rfl) (tellHp_row rfl rfl rfl (fun j hj => rfl) (tellHp_row rfl rfl rfl (fun j hj => rfl) (tellHp_row rfl rfl rfl (fun j hj => rfl) (tellHp_row rfl rfl rfl (fun j hj => putF_step _ hidx j) tellHp_nil))))))))
          (tellFr_v rfl rfl (tellFr_d rfl (DLe.refl _) (tellFr_ptr rfl rfl (tellFr_ptr rfl rfl (tellFr_v rfl hwi trivial))))), by show w.length - (i + 1) < w.length - i; omega⟩
      · obtain rfl : i = w.length := by omega
        refine bsplit_of_false (decide_eq_false (show ¬ (w.length : Int) < (w.length : Int) by omega)) ?_
        exact ⟨⟨rfl, ⟨rfl, rfl, rfl, fun i hi => ⟨rfl, rfl⟩⟩, rfl, ⟨rfl, rfl, rfl, fun i hi => ⟨rfl, rfl⟩⟩, rfl, rfl, rfl, rfl, ⟨rfl, rfl, rfl, fun i hi => ⟨rfl, rfl⟩⟩, ⟨rfl, rfl, rfl, fun i hi => ⟨rfl, rfl⟩⟩, ⟨rfl, rfl, rfl, fun i hi => ⟨rfl, rfl⟩⟩, ⟨rfl, rfl, (putL_len hle).symm, fun i hi => ⟨putL_F hle i, rfl⟩⟩, trivial⟩, rfl⟩
end Go.Proofs.Ytfcekiehcchebaa.L

/- The law function over the words of a lonely machine's page answers true. -/
set_option linter.unusedVariables false
set_option linter.unusedSimpArgs false
set_option maxRecDepth 100000
namespace Go.Proofs.Ytfcekiehcchebaa.L
open Go.RowKit
theorem soloWords_len (x : SoloM) (p : Int) : (soloWords x p).2.length ≤ 8 := by
  unfold soloWords
  split
  · cases (!inR p 0 7)
    · show (pageW x.mem p).length ≤ 8
      unfold pageW
      rw [List.length_take]; omega
    · simp
  · simp
set_option maxHeartbeats 1600000 in
theorem c_laws_FnExactSoloWords (x : SoloM) (p : Int) (ho : x.ok) (hop : ok64 p) : FnOK Try.prog 7 [soloLV x, di p] (rb true) := by
  have hs := ho.small
  obtain ⟨v, hv, cv⟩ := szSoloE x hs
  by_cases hneg : v < 0
  · refine fn_of lv7 Try.func7 rfl rfl (by kernel_rfl) rfl ?_
    refine .inl ⟨_, _, rfl, cv, rfl, ?_⟩
    refine bsplit_of_true (decide_eq_true hneg) ?_
    exact ⟨⟨rfl, trivial⟩, rfl⟩
  obtain ⟨hf, hp, hm⟩ := hv hneg
  have ct := c_laws_toSolo x hs
  have cs := c_spec_SoloWords x hs hp hm p
  have ci := c_impl_SoloWords x hs hp hm p
  have hl := soloWords_len x p
  have ce := c_laws_eqSolo x x hs
  have cm := c_laws_markSolo x 1 hf hp hm (by omega) (by omega)
  obtain ⟨q, hq⟩ : ∃ q, q = soloWords x p := ⟨_, rfl⟩
  rw [← hq] at cs ci hl
  have hk0 : ¬ sK6 x 1 < 0 := by
    have := (hK_le x.hart 1 hf (by omega) (by omega)).2.2.2.1
    show ¬ hK4 x.hart 1 + 2 * (x.pages.length : Int) + x.mem.length < 0
    omega
  have hk : ¬ (1 : Int) + q.2.length < 0 := by omega
  refine fn_of lv7 Try.func7 rfl rfl (by kernel_rfl) rfl ?_
  refine .inl ⟨_, _, rfl, cv, rfl, ?_⟩
  refine bsplit_of_false (decide_eq_false hneg) ?_
  refine .inl ⟨_, _, rfl, ct, rfl, ?_⟩
  refine .inl ⟨_, _, rfl, cs, rfl, ?_⟩
  refine .inl ⟨_, _, rfl, ct, rfl, ?_⟩
  refine .inl ⟨_, _, rfl, ci, rfl, ?_⟩
  refine .inl ⟨_, _, rfl, c_laws_eqIntsResult q q (by omega), rfl, ?_⟩
  repeat' (first | refine bsplit_true ?_ | refine bsplit_false ?_ | refine chk_intro (by kernel_rfl) ?_ | refine bsplit_of_false (by simp; done) ?_)
  refine .inl ⟨_, _, rfl, ct, rfl, ?_⟩
  refine .inl ⟨_, _, rfl, ce, rfl, ?_⟩
  repeat' (first | refine bsplit_true ?_ | refine bsplit_false ?_ | refine chk_intro (by kernel_rfl) ?_ | refine bsplit_of_false (by simp; done) ?_)
  refine .inr ⟨rfl, use_mut ⟨_, _, _, _, _, _, rfl, rfl, cm, rfl, ?_⟩⟩
  repeat' (first | refine bsplit_true ?_ | refine bsplit_false ?_ | refine chk_intro (by kernel_rfl) ?_)
  try refine bsplit_of_false (decide_eq_false hk0) ?_
  repeat' (first | refine bsplit_true ?_ | refine bsplit_false ?_ | refine chk_intro (by kernel_rfl) ?_ | refine bsplit_of_false (by simp; done) ?_)
  refine .inl ⟨_, _, rfl, c_laws_eqIntsResult q q (by omega), rfl, ?_⟩
  repeat' (first | refine bsplit_true ?_ | refine bsplit_false ?_ | refine chk_intro (by kernel_rfl) ?_ | refine bsplit_of_false (by simp; done) ?_)
  refine .inr ⟨rfl, use_mut ⟨_, _, _, _, _, _, rfl, rfl, c_laws_markIntsResult q 1 (by omega) (by omega) (by omega), rfl, ?_⟩⟩
  repeat' (first | refine bsplit_true ?_ | refine bsplit_false ?_ | refine chk_intro (by kernel_rfl) ?_)
  refine .inl ⟨_, _, rfl, c_laws_heldIntsResult q 1 (by omega) (by omega) (by omega), rfl, ?_⟩
  repeat' (first | refine bsplit_true ?_ | refine bsplit_false ?_ | refine chk_intro (by kernel_rfl) ?_)
  try refine bsplit_of_false (decide_eq_false hk) ?_
  repeat' (first | refine bsplit_true ?_ | refine bsplit_false ?_ | refine chk_intro (by kernel_rfl) ?_ | refine bsplit_of_false (by simp; done) ?_)
  refine .inl ⟨_, _, rfl, ct, rfl, ?_⟩
  refine .inl ⟨_, _, rfl, ci, rfl, ?_⟩
  refine .inl ⟨_, _, rfl, c_laws_eqIntsResult q q (by omega), rfl, ?_⟩
  repeat' (first | refine bsplit_true ?_ | refine bsplit_false ?_ | refine chk_intro (by kernel_rfl) ?_ | refine bsplit_of_false (by simp; done) ?_)
  refine .inl ⟨_, _, rfl, c_laws_heldIntsResult q 1 (by omega) (by omega) (by omega), rfl, ?_⟩
  repeat' (first | refine bsplit_true ?_ | refine bsplit_false ?_ | refine chk_intro (by kernel_rfl) ?_)
  try refine bsplit_of_false (decide_eq_false hk) ?_
  repeat' (first | refine bsplit_true ?_ | refine bsplit_false ?_ | refine chk_intro (by kernel_rfl) ?_ | refine bsplit_of_false (by simp; done) ?_)
  exact ⟨⟨rfl, trivial⟩, rfl⟩
end Go.Proofs.Ytfcekiehcchebaa.L

/- The law function FnExactFeedSolo answers true. -/
set_option linter.unusedVariables false
set_option linter.unusedSimpArgs false
set_option maxRecDepth 100000
namespace Go.Proofs.Ytfcekiehcchebaa.L
open Go.RowKit
theorem feedSolo_few (x : SoloM) (p : Int) (w : List Int) (hs : x.small) (hf : x.hart.few) (hp : x.pages.length ≤ 1048576) (hm : x.mem.length ≤ 1048576) :
    (feedSolo x p w).2.small ∧ (feedSolo x p w).2.hart.few ∧ (feedSolo x p w).2.pages.length ≤ 1048576 ∧ (feedSolo x p w).2.mem.length ≤ 1048576 := by
  have hz : soloZ.small ∧ soloZ.hart.few ∧ soloZ.pages.length ≤ 1048576 ∧ soloZ.mem.length ≤ 1048576 := ⟨soloZ_small, soloZ_few, by decide, by decide⟩
  unfold feedSolo
  split
  · rename_i h0
    have hmm := soloFault_mem h0
    cases hi : inR p 0 7 with
    | false => exact hz
    | true =>
      have hb := inR_iff.1 hi
      cases h8 : ((w.length : Int) != 8) || !w.all isW with
      | true => exact hz
      | false =>
        simp only [Bool.or_eq_false_iff, bne_eq_false_iff_eq] at h8
        have hl : (putL x.mem (8 * p.toNat) w).length = x.mem.length := putL_len (by omega)
        exact ⟨⟨hs.hart, hs.pages, by show (putL x.mem (8 * p.toNat) w).length * 8 ≤ _; rw [hl]; exact hs.mem⟩, hf, hp, by show (putL x.mem (8 * p.toNat) w).length ≤ _; rw [hl]; exact hm⟩
  · exact hz
set_option maxHeartbeats 1600000 in
theorem c_laws_FnExactFeedSolo (x : SoloM) (p : Int) (w : List Int) (ho : x.ok) (hop : ok64 p) (how : okInts w) : FnOK Try.prog 10 [soloLV x, di p, .d (ints w)] (rb true) := by
  have hs := ho.small
  have hl8 : w.length * 8 ≤ 140737488355328 := by have := how.1; rw [reach_eq] at this; omega
  obtain ⟨v, hv, cv⟩ := szSoloE x hs
  by_cases hbig : (w.length : Int) > 1048576
  · refine fn_of lv10 Try.func10 rfl rfl (by kernel_rfl) rfl ?_
    refine bsplit_of_true (decide_eq_true hbig) ?_
    exact ⟨⟨rfl, trivial⟩, rfl⟩
  by_cases hneg : v < 0
  · refine fn_of lv10 Try.func10 rfl rfl (by kernel_rfl) rfl ?_
    refine bsplit_of_false (decide_eq_false hbig) ?_
    refine .inl ⟨_, _, rfl, cv, rfl, ?_⟩
    refine bsplit_of_true (decide_eq_true hneg) ?_
    exact ⟨⟨rfl, trivial⟩, rfl⟩
  obtain ⟨hf, hp, hm⟩ := hv hneg
  have hwl : w.length ≤ 1048576 := by omega
  have ct := c_laws_toSolo x hs
  have cw := c_laws_toInt64S w hl8
  have cs := c_spec_FeedSolo x hs hp hm p w hwl
  have ci := c_impl_FeedSolo x hs hp hm p w hwl
  obtain ⟨hsm, hff, hfp, hfm⟩ := feedSolo_few x p w hs hf hp hm
  have ce := c_laws_eqSolo x x hs
  have cm := c_laws_markSolo x 1 hf hp hm (by omega) (by omega)
  obtain ⟨b1, b2, b3, b4, b5, b6⟩ := sK_b x 1 hf hp hm (by omega) (by omega)
  have cwm := c_laws_markInt64S w (sK6 x 1) (by omega) b5 b6
  obtain ⟨q, hq⟩ : ∃ q, q = feedSolo x p w := ⟨_, rfl⟩
  rw [← hq] at cs ci hsm hff hfp hfm
  have cq := c_laws_eqSoloResult q q hsm
  have cqm := c_laws_markSoloResult q 1 hff hfp hfm (by omega) (by omega)
  have cqh := c_laws_heldSoloResult q 1 hff hfp hfm (by omega) (by omega)
  have hk := (sK_b q.2 1 hff hfp hfm (by omega) (by omega)).2.2.2.2.1
  have hk0 : ¬ sK6 x 1 + (w.length : Int) < 0 := by omega
  have hk1 : ¬ sK6 q.2 1 < 0 := by omega
  refine fn_of lv10 Try.func10 rfl rfl (by kernel_rfl) rfl ?_
  refine bsplit_of_false (decide_eq_false hbig) ?_
  refine .inl ⟨_, _, rfl, cv, rfl, ?_⟩
  refine bsplit_of_false (decide_eq_false hneg) ?_
  refine .inl ⟨_, _, rfl, ct, rfl, ?_⟩
  refine .inl ⟨_, _, rfl, cw, rfl, ?_⟩
  refine .inl ⟨_, _, rfl, cs, rfl, ?_⟩
  refine .inl ⟨_, _, rfl, ct, rfl, ?_⟩
  refine .inl ⟨_, _, rfl, cw, rfl, ?_⟩
  refine .inl ⟨_, _, rfl, ci, rfl, ?_⟩
  refine .inl ⟨_, _, rfl, cq, rfl, ?_⟩
  repeat' (first | refine bsplit_true ?_ | refine bsplit_false ?_ | refine chk_intro (by kernel_rfl) ?_ | refine bsplit_of_false (by simp; done) ?_)
  refine .inl ⟨_, _, rfl, ct, rfl, ?_⟩
  refine .inl ⟨_, _, rfl, ce, rfl, ?_⟩
  repeat' (first | refine bsplit_true ?_ | refine bsplit_false ?_ | refine chk_intro (by kernel_rfl) ?_ | refine bsplit_of_false (by simp; done) ?_)
  refine .inl ⟨_, _, rfl, cw, rfl, ?_⟩
  refine .inl ⟨_, _, rfl, c_laws_eqInt64S w w (by omega), rfl, ?_⟩
  repeat' (first | refine bsplit_true ?_ | refine bsplit_false ?_ | refine chk_intro (by kernel_rfl) ?_ | refine bsplit_of_false (by simp; done) ?_)
  refine .inr ⟨rfl, use_mut ⟨_, _, _, _, _, _, rfl, rfl, cm, rfl, ?_⟩⟩
  repeat' (first | refine bsplit_true ?_ | refine bsplit_false ?_ | refine chk_intro (by kernel_rfl) ?_)
  refine .inr ⟨rfl, use_mut ⟨_, _, _, _, _, _, rfl, rfl, cwm, rfl, ?_⟩⟩
  repeat' (first | refine bsplit_true ?_ | refine bsplit_false ?_ | refine chk_intro (by kernel_rfl) ?_)
  try refine bsplit_of_false (decide_eq_false hk0) ?_
  repeat' (first | refine bsplit_true ?_ | refine bsplit_false ?_ | refine chk_intro (by kernel_rfl) ?_ | refine bsplit_of_false (by simp; done) ?_)
  refine .inl ⟨_, _, rfl, cq, rfl, ?_⟩
  repeat' (first | refine bsplit_true ?_ | refine bsplit_false ?_ | refine chk_intro (by kernel_rfl) ?_ | refine bsplit_of_false (by simp; done) ?_)
  refine .inr ⟨rfl, use_mut ⟨_, _, _, _, _, _, rfl, rfl, cqm, rfl, ?_⟩⟩
  repeat' (first | refine bsplit_true ?_ | refine bsplit_false ?_ | refine chk_intro (by kernel_rfl) ?_)
  refine .inl ⟨_, _, rfl, cqh, rfl, ?_⟩
  repeat' (first | refine bsplit_true ?_ | refine bsplit_false ?_ | refine chk_intro (by kernel_rfl) ?_)
  try refine bsplit_of_false (decide_eq_false hk1) ?_
  repeat' (first | refine bsplit_true ?_ | refine bsplit_false ?_ | refine chk_intro (by kernel_rfl) ?_ | refine bsplit_of_false (by simp; done) ?_)
  refine .inl ⟨_, _, rfl, ct, rfl, ?_⟩
  refine .inl ⟨_, _, rfl, cw, rfl, ?_⟩
  refine .inl ⟨_, _, rfl, ci, rfl, ?_⟩
  refine .inl ⟨_, _, rfl, cq, rfl, ?_⟩
  repeat' (first | refine bsplit_true ?_ | refine bsplit_false ?_ | refine chk_intro (by kernel_rfl) ?_ | refine bsplit_of_false (by simp; done) ?_)
  refine .inl ⟨_, _, rfl, cqh, rfl, ?_⟩
  repeat' (first | refine bsplit_true ?_ | refine bsplit_false ?_ | refine chk_intro (by kernel_rfl) ?_)
  try refine bsplit_of_false (decide_eq_false hk1) ?_
  repeat' (first | refine bsplit_true ?_ | refine bsplit_false ?_ | refine chk_intro (by kernel_rfl) ?_ | refine bsplit_of_false (by simp; done) ?_)
  exact ⟨⟨rfl, trivial⟩, rfl⟩
end Go.Proofs.Ytfcekiehcchebaa.L

/- The law FnExactFeedSolo answers true at every input that its statement lets in. -/
set_option linter.unusedVariables false
set_option maxRecDepth 100000
namespace Go.Proofs.Ytfcekiehcchebaa.L.FnExactFeedSolo
open Go.RowKit Go.ChangeShapes Go.WideShapes Go.ChangeAt
theorem lifted (os : Os) (started : os.Started) (H : Type) (enc : TypeId × Value → H) :
    ReturnsInHanded {} Try.checked os 10 .any (Rows.fnExactFeedSoloSpec.pre6 enc Try.prog Try.f10 Rows.fnExactFeedSoloRow.domain false) (Rows.fnExactFeedSoloSpec.post enc Try.prog Try.f10 false true false false) := by
  refine returnsInHanded_of_change_sized (C := Try.checked) own started (by kernel_rfl) Try.func10
    (ChangeSpec.witness6 (enc := enc) (C := Try.checked) false ⟨#[], #[.agg #[.slice none 0 0, .int .i64 0, .slice none 0 0, .bool false, .bool false, .bool false, .int .i64 0, .slice none 0 0, .slice none 0 0, .slice none 0 0, .slice none 0 0], .int .i64 0, .slice none 0 0], []⟩ 8 (by kernel_rfl) (by kernel_rfl) (by kernel_rfl) (by kernel_rfl)) ?_
  intro W base args ds gs before hval0 hW hcnd hsz0 _
  have hsz : (DataW.weightsEach Try.prog (Try.f10.params.toList ++ Rows.fnExactFeedSoloSpec.plain.varTypes Try.prog) (ds ++ gs)).all (· ≤ reachBytes) = true := hsz0
  have hval : ∀ (j : Nat) t v, Try.f10.params[j]? = some t → args[j]? = some v → Value.okWide Try.prog W .any base t v := hval0
  have hW' := hW
  obtain ⟨p, q, hA0, hV, rfl, hfz, hnd⟩ := hW
  have hA : DataW.TrodAll enc Try.prog W 0 (fun _ => true) true Try.f10.params.toList args.toList ds p := hA0
  rw [Try.params10] at hA hval hsz
  obtain ⟨v0, vs0, d0, ds0, p0, q0, hargs, rfl, rfl, h0, r0⟩ := trodAll_cons hA
  obtain ⟨v1, vs1, d1, ds1, p1, q1, rfl, rfl, rfl, h1, r1⟩ := trodAll_cons r0
  obtain ⟨v2, vs2, d2, ds2, p2, q2, rfl, rfl, rfl, h2, r2⟩ := trodAll_cons r1
  obtain ⟨rfl, rfl, rfl⟩ := trodAll_nil r2
  obtain rfl : args = #[v0, v1, v2] := by cases args; simp_all
  obtain ⟨rfl, rfl⟩ := trodVars_none hV
  have hsm : ∀ k ∈ DataW.weightsEach Try.prog ([27, 2, 22] ++ Rows.fnExactFeedSoloSpec.plain.varTypes Try.prog) ([d0, d1, d2] ++ []), k ≤ reachBytes := fun k hk => by simpa using List.all_eq_true.1 hsz k hk
  have k0 := h0
  have lt0 : ∀ x ∈ p0, x.block < W.heap.size := by obtain ⟨m, hm⟩ := k0; exact DataW.trod_lt m _ _ _ hm
  obtain ⟨m0, hm0, hvr0⟩ := reads_Solo.agg Try.underlying27 (hval 0 27 v0 rfl rfl) h0 (fun k hk => hsm k (DataW.weights_mem_each (j := 0) rfl rfl k hk))
  have k1 := h1
  have lt1 : ∀ x ∈ p1, x.block < W.heap.size := by obtain ⟨m, hm⟩ := k1; exact DataW.trod_lt m _ _ _ hm
  have c1 : v1.cells = #[v1] := by have z := okWide_int Try.underlying2 (hval 1 2 v1 rfl rfl); (first | (obtain ⟨_, rfl⟩ := z; rfl) | (obtain ⟨_, _, _, rfl⟩ := z; rfl))
  obtain ⟨m1, hm1, hvr1⟩ := reads_int64.one c1 h1 (fun k hk => hsm k (DataW.weights_mem_each (j := 1) rfl rfl k hk))
  have k2 := h2
  have lt2 : ∀ x ∈ p2, x.block < W.heap.size := by obtain ⟨m, hm⟩ := k2; exact DataW.trod_lt m _ _ _ hm
  have c2 : v2.cells = #[v2] := by have z := okWide_slice Try.underlying22 (hval 2 22 v2 rfl rfl); (first | (obtain ⟨_, rfl⟩ := z; rfl) | (obtain ⟨_, _, _, rfl⟩ := z; rfl))
  obtain ⟨m2, hm2, hvr2⟩ := reads_ints.one c2 h2 (fun k hk => hsm k (DataW.weights_mem_each (j := 2) rfl rfl k hk))
  refine ((c_laws_FnExactFeedSolo m0 m1 m2 hm0 hm1 hm2).calls W (Mem W) [v0, v1, v2] ⟨fun b hb => hb, fun g k zs h => by cases h⟩ rfl (fun j hj => ?_)).mono fun e W' ⟨v, he, bel, hrr⟩ => ?_
  · match j, hj with
    | 0, _ => exact hvr0
    | 1, _ => exact hvr1
    | 2, _ => exact hvr2
    | j + 3, hj => exact absurd hj (by simp)
  · obtain ⟨us, J, hl, rfl, hJ, hok, _, _⟩ := hrr.ex
    have h1 := hok 0 _ rfl
    have h2 : RV.val us (rb true) = .bool true := h1
    rw [h2] at he
    subst he
    exact ⟨_, rfl, _, _, _, [], _, [], hW', trodAll_mk1 (shut_bool Try.underlying4 _), (trodAll_cons_mk (Below.trod laidOut (by kernel_rfl) (of_decide_eq_true (by kernel_rfl)) k0 bel lt0) (trodAll_cons_mk (Below.trod laidOut (by kernel_rfl) (of_decide_eq_true (by kernel_rfl)) k1 bel lt1) (trodAll_cons_mk (Below.trod laidOut (by kernel_rfl) (of_decide_eq_true (by kernel_rfl)) k2 bel lt2) trodAll_mk0))), rfl, bel.frame _, fun h => by cases h⟩
theorem over : Rows.fnExactFeedSoloRow.holds Try.pinned (OpenSpec.ofChange Rows.fnExactFeedSoloSpec) :=
  OpenClaim.holds_of_wide 10 Try.f10 rfl rfl rfl rfl rfl rfl rfl ⟨rfl, rfl, rfl, rfl, rfl⟩ rfl rfl rfl rfl rfl (by kernel_rfl) Try.func10 (by kernel_rfl)
    (of_decide_eq_true (by kernel_rfl)) (by unfold Func.isWrapper; first | (rw [if_pos (by decide +kernel)]; kernel_rfl) | (rw [if_neg (by decide +kernel)]; exact ⟨rfl, rfl⟩))
    (fun os started H enc _ => lifted os started H enc)
end Go.Proofs.Ytfcekiehcchebaa.L.FnExactFeedSolo
namespace Go.Proofs.Ytfcekiehcchebaa
theorem fnExactFeedSolo_holds : Rows.FnExactFeedSoloSaid := L.FnExactFeedSolo.over
#print axioms fnExactFeedSolo_holds
end Go.Proofs.Ytfcekiehcchebaa
