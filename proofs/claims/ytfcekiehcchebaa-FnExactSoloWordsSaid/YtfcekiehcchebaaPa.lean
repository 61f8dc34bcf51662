/- What the functions that look at pages and memories compute: contracts. -/
import Derived.Test.YtfcekiehcchebaaCc
set_option linter.unusedVariables false
set_option linter.unusedSimpArgs false
set_option maxRecDepth 100000
namespace Go.Proofs.Ytfcekiehcchebaa.L
open Go.RowKit
structure PageM where
  to : Int
  kinds : Int
  deriving DecidableEq
abbrev pageD (p : PageM) : List D := [.v (.int .i64 p.to), .v (.int .i64 p.kinds)]
abbrev pagesF (l : List PageM) (i : Nat) : List D := pageD (l.getD i ⟨0, 0⟩)
abbrev pages (l : List PageM) : D := .l l.length (pagesF l)
def firstNZ : List Int → Int
  | [] => 0
  | x :: xs => if x = 0 then firstNZ xs else x
def pageBad (top : Int) (p : PageM) : Int := bif !inR p.to (-1) (top - 1) || !inR p.kinds 0 7 then 3 else bif (p.to == -1) && (p.kinds != 0) then 1 else 0
def pagesFault (l : List PageM) (top : Int) : Int := bif !inR top 1 24 then 3 else bif (l.length : Int) != 8 then 1 else firstNZ (l.map (pageBad top))
theorem map_drop {α : Type} (d : α) (f : α → Int) (l : List α) (i : Nat) (h : i < l.length) : (l.drop i).map f = f (l.getD i d) :: (l.drop (i + 1)).map f := by
  rw [List.drop_eq_getElem_cons h, List.map_cons]
  simp [List.getD, List.getElem?_eq_getElem h]
theorem c_impl_firstOf (l : List Int) (hl : l.length ≤ 1048576) : FnOK Try.prog 73 [.d (ints l)] (ri (firstNZ l)) := by
  refine fn_of lv73 Try.func73 rfl rfl (by kernel_rfl) rfl ?_
  refine ⟨{ i : Nat // i ≤ l.length ∧ firstNZ (l.drop i) = firstNZ l }, fun i => ⟨frL [(5, .d (ints l)), (6, di l.length), (7, di i.1)], hpL [], 0, 0⟩, fun i => l.length - i.1, ⟨0, by simp⟩, le_of [] rfl rfl rfl rfl trivial (tellFr_d rfl (DLe.refl _) (tellFr_v rfl rfl (tellFr_v rfl rfl trivial))), ?_⟩
  rintro ⟨i, hi, hall⟩
  refine bsplit_intro (fun h => ?_) (fun h => ?_)
  · have h : i < l.length := by simp at h; exact h
    have hd : firstNZ (l.drop i) = if l.getD i 0 = 0 then firstNZ (l.drop (i + 1)) else l.getD i 0 := by rw [drop_cons l i h]; rfl
    refine ask_intro ⟨by omega, by simp; omega, rfl⟩ ?_
    refine bsplit_intro (fun h2 => ?_) (fun h2 => ?_)
    · have h2 : ¬ l.getD i 0 = 0 := by simpa using h2
      refine ⟨⟨congrArg (Value.int .i64) ?_, trivial⟩, rfl⟩
      show l.getD i 0 = _
      rw [← hall, hd, if_neg h2]
    · have h2 : l.getD i 0 = 0 := by simpa using h2
      refine ⟨⟨i + 1, by omega, by rw [← hall, hd, if_pos h2]⟩, le_of [] rfl rfl rfl rfl trivial (tellFr_d rfl (DLe.refl _) (tellFr_v rfl rfl (tellFr_v rfl (congrArg (Value.int .i64) (?_ : IntKind.i64.wrap ((i : Int) + 1) = ((i + 1 : Nat) : Int))) trivial))), by show l.length - (i + 1) < l.length - i; omega⟩
      exact wrap_i64 (i + 1) (by omega) (by omega)
  · refine ⟨⟨congrArg (Value.int .i64) ?_, trivial⟩, rfl⟩
    simp at h
    rw [← hall, List.drop_eq_nil_of_le h]; rfl
theorem c_spec_PagesFault (l : List PageM) (top : Int) (hl : l.length ≤ 1048576) : FnOK Try.prog 71 [.d (pages l), di top] (ri (pagesFault l top)) := by
  generalize hr : pagesFault l top = r
  unfold pagesFault at hr
  refine fn_of lv71 Try.func71 rfl rfl (by kernel_rfl) rfl ?_
  refine .inl ⟨_, _, rfl, c_spec_l1In top 1 24, rfl, ?_⟩
  refine bsplit_intro (fun h => ?_) (fun h => ?_)
  · rw [h] at hr
    exact ⟨⟨congrArg (Value.int .i64) hr, trivial⟩, rfl⟩
  have ht := inR_iff.1 (show inR top 1 24 = true by simpa using h)
  rw [h] at hr
  have hw : IntKind.i64.wrap (top - 1) = top - 1 := wrap_i64 _ (by omega) (by omega)
  refine bsplit_intro (fun h1 => ?_) (fun h1 => ?_)
  · rw [h1] at hr
    exact ⟨⟨congrArg (Value.int .i64) hr, trivial⟩, rfl⟩
  rw [h1] at hr
  simp only [cond_false] at hr
  refine ⟨{ i : Nat // i ≤ l.length ∧ firstNZ ((l.drop i).map (pageBad top)) = r }, fun i => ⟨frL [(0, .d (pages l)), (1, di top), (5, di i.1)], hpL [], 0, 0⟩, fun i => l.length - i.1, ⟨0, by omega, by simpa using hr⟩, le_of [] rfl rfl rfl rfl trivial (tellFr_d rfl (DLe.refl _) (tellFr_v rfl rfl (tellFr_v rfl rfl trivial))), ?_⟩
  rintro ⟨i, hi, hall⟩
  refine bsplit_intro (fun h => ?_) (fun h => ?_)
  · have h : i < l.length := by simp at h; exact h
    rw [map_drop ⟨0, 0⟩ _ _ _ h] at hall
    have hwi : IntKind.i64.wrap ((i : Int) + 1) = ((i + 1 : Nat) : Int) := wrap_i64 (i + 1) (by omega) (by omega)
    obtain ⟨b, hb⟩ : ∃ b, b = pageBad top (l.getD i ⟨0, 0⟩) := ⟨_, rfl⟩
    rw [← hb] at hall
    unfold pageBad at hb
    refine ask_intro ⟨by omega, by simp; omega, rfl⟩ ?_
    refine .inl ⟨_, _, rfl, c_spec_l1In _ _ _, rfl, ?_⟩
    repeat' (first | refine bsplit_true ?_ | refine bsplit_false ?_)
    have e1 : inR (l.getD i ⟨0, 0⟩).to (-1) (IntKind.i64.wrap (top - 1)) = inR (l.getD i ⟨0, 0⟩).to (-1) (top - 1) := by rw [hw]
    have stop : ∀ v : Int, b = v → v ≠ 0 → v = r := fun v e n => by rw [← hall, e]; simp [firstNZ, n]
    have go : b = 0 → firstNZ ((l.drop (i + 1)).map (pageBad top)) = r := fun e => by rw [← hall, e]; simp [firstNZ]
    refine bsplit_intro (fun h2 => ?_) (fun h2 => ?_)
    · have h2 : (!inR (l.getD i ⟨0, 0⟩).to (-1) (top - 1)) = true := by rw [← e1]; exact h2
      repeat' (first | refine bsplit_true ?_ | refine bsplit_false ?_)
      exact ⟨⟨congrArg (Value.int .i64) (stop 3 (by rw [hb, h2]; rfl) (by decide)), trivial⟩, rfl⟩
    have h2 : (!inR (l.getD i ⟨0, 0⟩).to (-1) (top - 1)) = false := by rw [← e1]; exact h2
    repeat' (first | refine bsplit_true ?_ | refine bsplit_false ?_)
    refine ask_intro ⟨by omega, by simp; omega, rfl⟩ ?_
    repeat' (first | refine bsplit_true ?_ | refine bsplit_false ?_)
    refine .inl ⟨_, _, rfl, c_spec_l1In _ _ _, rfl, ?_⟩
    repeat' (first | refine bsplit_true ?_ | refine bsplit_false ?_)
    refine bsplit_intro (fun h3 => ?_) (fun h3 => ?_)
    · have h3 : (!inR (l.getD i ⟨0, 0⟩).kinds 0 7) = true := h3
      exact ⟨⟨congrArg (Value.int .i64) (stop 3 (by rw [hb, h2, h3]; rfl) (by decide)), trivial⟩, rfl⟩
    have h3 : (!inR (l.getD i ⟨0, 0⟩).kinds 0 7) = false := h3
    have r2 := inR_iff.1 (show inR (l.getD i ⟨0, 0⟩).to (-1) (top - 1) = true by simpa using h2)
    refine ask_intro ⟨by omega, by simp; omega, rfl⟩ ?_
    refine bsplit_intro (fun h4 => ?_) (fun h4 => ?_)
    · have h4 : decide ((l.getD i ⟨0, 0⟩).to < 0) = true := h4
      have q : ((l.getD i ⟨0, 0⟩).to == -1) = true := by
        have : (l.getD i ⟨0, 0⟩).to < 0 := of_decide_eq_true h4
        exact beq_iff_eq.2 (by omega)
      repeat' (first | refine bsplit_true ?_ | refine bsplit_false ?_)
      refine ask_intro ⟨by omega, by simp; omega, rfl⟩ ?_
      repeat' (first | refine bsplit_true ?_ | refine bsplit_false ?_)
      refine bsplit_intro (fun h5 => ?_) (fun h5 => ?_)
      · have h5 : ((l.getD i ⟨0, 0⟩).kinds != 0) = true := h5
        exact ⟨⟨congrArg (Value.int .i64) (stop 1 (by rw [hb, h2, h3, q, h5]; rfl) (by decide)), trivial⟩, rfl⟩
      · have h5 : ((l.getD i ⟨0, 0⟩).kinds != 0) = false := h5
        exact ⟨⟨i + 1, by omega, go (by rw [hb, h2, h3, q, h5]; rfl)⟩, le_of [] rfl rfl rfl rfl trivial (tellFr_d rfl (DLe.refl _) (tellFr_v rfl rfl (tellFr_v rfl (congrArg (Value.int .i64) hwi) trivial))), by show l.length - (i + 1) < l.length - i; omega⟩
    · have h4 : decide ((l.getD i ⟨0, 0⟩).to < 0) = false := h4
      have q : ((l.getD i ⟨0, 0⟩).to == -1) = false := by
        have : ¬ (l.getD i ⟨0, 0⟩).to < 0 := of_decide_eq_false h4
        exact beq_eq_false_iff_ne.2 (by omega)
      repeat' (first | refine bsplit_true ?_ | refine bsplit_false ?_)
      exact ⟨⟨i + 1, by omega, go (by rw [hb, h2, h3, q]; rfl)⟩, le_of [] rfl rfl rfl rfl trivial (tellFr_d rfl (DLe.refl _) (tellFr_v rfl rfl (tellFr_v rfl (congrArg (Value.int .i64) hwi) trivial))), by show l.length - (i + 1) < l.length - i; omega⟩
  · refine ⟨⟨congrArg (Value.int .i64) ?_, trivial⟩, rfl⟩
    simp at h
    rw [← hall, List.drop_eq_nil_of_le h]; rfl
theorem c_impl_PagesFault (l : List PageM) (top : Int) (hl : l.length ≤ 1048576) : FnOK Try.prog 74 [.d (pages l), di top] (ri (pagesFault l top)) := by
  generalize hr : pagesFault l top = r
  unfold pagesFault at hr
  refine fn_of lv74 Try.func74 rfl rfl (by kernel_rfl) rfl ?_
  refine .inl ⟨_, _, rfl, c_impl_within top 1 24, rfl, ?_⟩
  refine bsplit_intro (fun h => ?_) (fun h => ?_)
  · rw [h] at hr
    exact ⟨⟨congrArg (Value.int .i64) hr, trivial⟩, rfl⟩
  have ht := inR_iff.1 (show inR top 1 24 = true by simpa using h)
  rw [h] at hr
  have hw : IntKind.i64.wrap (top - 1) = top - 1 := wrap_i64 _ (by omega) (by omega)
  refine bsplit_intro (fun h1 => ?_) (fun h1 => ?_)
  · rw [h1] at hr
    exact ⟨⟨congrArg (Value.int .i64) hr, trivial⟩, rfl⟩
  rw [h1] at hr
  simp only [cond_false] at hr
  refine ⟨{ i : Nat // i ≤ l.length ∧ firstNZ ((l.drop i).map (pageBad top)) = r }, fun i => ⟨frL [(1, di top), (15, .d (pages l)), (16, di l.length), (17, di i.1)], hpL [], 0, 0⟩, fun i => l.length - i.1, ⟨0, by omega, by simpa using hr⟩, le_of [] rfl rfl rfl rfl trivial (tellFr_v rfl rfl (tellFr_d rfl (DLe.refl _) (tellFr_v rfl rfl (tellFr_v rfl rfl trivial)))), ?_⟩
  rintro ⟨i, hi, hall⟩
  refine bsplit_intro (fun h => ?_) (fun h => ?_)
  · have h : i < l.length := by simp at h; exact h
    rw [map_drop ⟨0, 0⟩ _ _ _ h] at hall
    have hwi : IntKind.i64.wrap ((i : Int) + 1) = ((i + 1 : Nat) : Int) := wrap_i64 (i + 1) (by omega) (by omega)
    obtain ⟨b, hb⟩ : ∃ b, b = pageBad top (l.getD i ⟨0, 0⟩) := ⟨_, rfl⟩
    rw [← hb] at hall
    unfold pageBad at hb
    refine ask_intro ⟨by omega, by simp; omega, rfl⟩ ?_
    refine .inl ⟨_, _, rfl, c_impl_within _ _ _, rfl, ?_⟩
    repeat' (first | refine bsplit_true ?_ | refine bsplit_false ?_)
    have e1 : inR (l.getD i ⟨0, 0⟩).to (-1) (IntKind.i64.wrap (top - 1)) = inR (l.getD i ⟨0, 0⟩).to (-1) (top - 1) := by rw [hw]
    have stop : ∀ v : Int, b = v → v ≠ 0 → v = r := fun v e n => by rw [← hall, e]; simp [firstNZ, n]
    have go : b = 0 → firstNZ ((l.drop (i + 1)).map (pageBad top)) = r := fun e => by rw [← hall, e]; simp [firstNZ]
    refine bsplit_intro (fun h2 => ?_) (fun h2 => ?_)
    · have h2 : (!inR (l.getD i ⟨0, 0⟩).to (-1) (top - 1)) = true := by rw [← e1]; exact h2
      repeat' (first | refine bsplit_true ?_ | refine bsplit_false ?_)
      exact ⟨⟨congrArg (Value.int .i64) (stop 3 (by rw [hb, h2]; rfl) (by decide)), trivial⟩, rfl⟩
    have h2 : (!inR (l.getD i ⟨0, 0⟩).to (-1) (top - 1)) = false := by rw [← e1]; exact h2
    repeat' (first | refine bsplit_true ?_ | refine bsplit_false ?_)
    refine .inl ⟨_, _, rfl, c_impl_within _ _ _, rfl, ?_⟩
    repeat' (first | refine bsplit_true ?_ | refine bsplit_false ?_)
    refine bsplit_intro (fun h3 => ?_) (fun h3 => ?_)
    · have h3 : (!inR (l.getD i ⟨0, 0⟩).kinds 0 7) = true := h3
      exact ⟨⟨congrArg (Value.int .i64) (stop 3 (by rw [hb, h2, h3]; rfl) (by decide)), trivial⟩, rfl⟩
    have h3 : (!inR (l.getD i ⟨0, 0⟩).kinds 0 7) = false := h3
    refine bsplit_intro (fun h4 => ?_) (fun h4 => ?_)
    · have h4 : ((l.getD i ⟨0, 0⟩).to == -1) = true := h4
      repeat' (first | refine bsplit_true ?_ | refine bsplit_false ?_)
      refine bsplit_intro (fun h5 => ?_) (fun h5 => ?_)
      · have h5 : ((l.getD i ⟨0, 0⟩).kinds != 0) = true := h5
        exact ⟨⟨congrArg (Value.int .i64) (stop 1 (by rw [hb, h2, h3, h4, h5]; rfl) (by decide)), trivial⟩, rfl⟩
      · have h5 : ((l.getD i ⟨0, 0⟩).kinds != 0) = false := h5
        exact ⟨⟨i + 1, by omega, go (by rw [hb, h2, h3, h4, h5]; rfl)⟩, le_of [] rfl rfl rfl rfl trivial (tellFr_v rfl rfl (tellFr_d rfl (DLe.refl _) (tellFr_v rfl rfl (tellFr_v rfl (congrArg (Value.int .i64) hwi) trivial)))), by show l.length - (i + 1) < l.length - i; omega⟩
    · have h4 : ((l.getD i ⟨0, 0⟩).to == -1) = false := h4
      repeat' (first | refine bsplit_true ?_ | refine bsplit_false ?_)
      exact ⟨⟨i + 1, by omega, go (by rw [hb, h2, h3, h4]; rfl)⟩, le_of [] rfl rfl rfl rfl trivial (tellFr_v rfl rfl (tellFr_d rfl (DLe.refl _) (tellFr_v rfl rfl (tellFr_v rfl (congrArg (Value.int .i64) hwi) trivial)))), by show l.length - (i + 1) < l.length - i; omega⟩
  · refine ⟨⟨congrArg (Value.int .i64) ?_, trivial⟩, rfl⟩
    simp at h
    rw [← hall, List.drop_eq_nil_of_le h]; rfl
def memFault (m : List Int) : Int := bif ((m.length : Int) == 0) || (decide ((m.length : Int) > 192) || (Int.tmod m.length 8 != 0)) then 1 else bif !m.all isW then 3 else 0
theorem c_impl_MemoryFault (l : List Int) (hl : l.length ≤ 1048576) : FnOK Try.prog 75 [.d (ints l)] (ri (memFault l)) := by
  generalize hr : memFault l = r
  unfold memFault at hr
  refine fn_of lv75 Try.func75 rfl rfl (by kernel_rfl) rfl ?_
  refine bsplit_intro (fun h => ?_) (fun h => ?_)
  · repeat' (first | refine bsplit_true ?_ | refine bsplit_false ?_)
    rw [h] at hr
    exact ⟨⟨congrArg (Value.int .i64) hr, trivial⟩, rfl⟩
  repeat' (first | refine bsplit_true ?_ | refine bsplit_false ?_)
  refine bsplit_intro (fun h1 => ?_) (fun h1 => ?_)
  · repeat' (first | refine bsplit_true ?_ | refine bsplit_false ?_)
    rw [h, h1] at hr
    exact ⟨⟨congrArg (Value.int .i64) hr, trivial⟩, rfl⟩
  repeat' (first | refine bsplit_true ?_ | refine bsplit_false ?_)
  refine ask_intro (by decide) ?_
  repeat' (first | refine bsplit_true ?_ | refine bsplit_false ?_)
  refine bsplit_intro (fun h2 => ?_) (fun h2 => ?_)
  · repeat' (first | refine bsplit_true ?_ | refine bsplit_false ?_)
    rw [h, h1, h2] at hr
    exact ⟨⟨congrArg (Value.int .i64) hr, trivial⟩, rfl⟩
  repeat' (first | refine bsplit_true ?_ | refine bsplit_false ?_)
  rw [h, h1, h2] at hr
  refine .inl ⟨_, _, rfl, c_impl_areWords l (by omega), rfl, ?_⟩
  refine bsplit_intro (fun h3 => ?_) (fun h3 => ?_)
  · rw [h3] at hr
    exact ⟨⟨congrArg (Value.int .i64) hr, trivial⟩, rfl⟩
  · rw [h3] at hr
    exact ⟨⟨congrArg (Value.int .i64) hr, trivial⟩, rfl⟩
theorem c_spec_MemoryFault (l : List Int) (hl : l.length ≤ 1048576) : FnOK Try.prog 72 [.d (ints l)] (ri (memFault l)) := by
  generalize hr : memFault l = r
  unfold memFault at hr
  have bad : (((l.length : Int) == 0) || (decide ((l.length : Int) > 192) || (Int.tmod l.length 8 != 0))) = true → 1 = r := fun e => by rw [← hr, e]; rfl
  have tm : Int.tmod (l.length : Int) 8 = ((l.length % 8 : Nat) : Int) := rfl
  refine fn_of lv72 Try.func72 rfl rfl (by kernel_rfl) rfl ?_
  refine ask_intro (by decide) ?_
  refine bsplit_intro (fun h => ?_) (fun h => ?_)
  · repeat' (first | refine bsplit_true ?_ | refine bsplit_false ?_)
    exact ⟨⟨congrArg (Value.int .i64) (bad (by rw [h]; simp)), trivial⟩, rfl⟩
  repeat' (first | refine bsplit_true ?_ | refine bsplit_false ?_)
  have h' : l.length % 8 = 0 := by rw [tm] at h; simp at h; omega
  refine bsplit_intro (fun h1 => ?_) (fun h1 => ?_)
  · repeat' (first | refine bsplit_true ?_ | refine bsplit_false ?_)
    have h0 : l.length = 0 := by simp at h1; omega
    exact ⟨⟨congrArg (Value.int .i64) (bad (by simp [h0])), trivial⟩, rfl⟩
  repeat' (first | refine bsplit_true ?_ | refine bsplit_false ?_)
  refine bsplit_intro (fun h2 => ?_) (fun h2 => ?_)
  · exact ⟨⟨congrArg (Value.int .i64) (bad (by rw [h2]; simp)), trivial⟩, rfl⟩
  have hz : ((l.length : Int) == 0) = false := beq_eq_false_iff_ne.2 (by have : ¬ (l.length : Int) < 8 := of_decide_eq_false h1; omega)
  rw [hz, h2, h] at hr
  have hr : (bif !l.all isW then (3 : Int) else 0) = r := hr
  refine ⟨{ i : Nat // i ≤ l.length ∧ (l.drop i).all isW = l.all isW }, fun i => ⟨frL [(0, .d (ints l)), (3, di i.1)], hpL [], 0, 0⟩, fun i => l.length - i.1, ⟨0, by simp⟩, le_of [] rfl rfl rfl rfl trivial (tellFr_d rfl (DLe.refl _) (tellFr_v rfl rfl trivial)), ?_⟩
  rintro ⟨i, hi, hall⟩
  refine bsplit_intro (fun h3 => ?_) (fun h3 => ?_)
  · have h3 : i < l.length := by simp at h3; exact h3
    have hwi : IntKind.i64.wrap ((i : Int) + 1) = ((i + 1 : Nat) : Int) := wrap_i64 (i + 1) (by omega) (by omega)
    rw [drop_all l isW i h3] at hall
    refine ask_intro ⟨by omega, by simp; omega, rfl⟩ ?_
    refine .inl ⟨_, _, rfl, c_spec_l1In _ _ _, rfl, ?_⟩
    refine bsplit_intro (fun h4 => ?_) (fun h4 => ?_)
    · have h4 : isW (l.getD i 0) = false := by simpa [isW] using h4
      rw [h4] at hall
      rw [← hall] at hr
      exact ⟨⟨congrArg (Value.int .i64) hr, trivial⟩, rfl⟩
    · have h4 : isW (l.getD i 0) = true := by simpa [isW] using h4
      rw [h4, Bool.true_and] at hall
      exact ⟨⟨i + 1, by omega, hall⟩, le_of [] rfl rfl rfl rfl trivial (tellFr_d rfl (DLe.refl _) (tellFr_v rfl (congrArg (Value.int .i64) hwi) trivial)), by show l.length - (i + 1) < l.length - i; omega⟩
  · simp at h3
    rw [List.drop_eq_nil_of_le h3] at hall
    rw [← hall] at hr
    exact ⟨⟨congrArg (Value.int .i64) hr, trivial⟩, rfl⟩
end Go.Proofs.Ytfcekiehcchebaa.L
