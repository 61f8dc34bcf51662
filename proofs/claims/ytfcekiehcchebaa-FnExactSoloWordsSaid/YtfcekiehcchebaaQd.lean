/- What the functions compute that tell the words of a page: contracts. -/
import Derived.Test.YtfcekiehcchebaaQb
import Derived.Test.YtfcekiehcchebaaCk
set_option linter.unusedVariables false
set_option linter.unusedSimpArgs false
set_option maxRecDepth 100000
namespace Go.Proofs.Ytfcekiehcchebaa.L
open Go.RowKit
def pageW (m : List Int) (p : Int) : List Int := (m.drop (p * 8).toNat).take 8
theorem pageW_len (m : List Int) (p : Int) (hp : 0 ≤ p) (h : (p + 1) * 8 ≤ m.length) : (pageW m p).length = 8 := by
  unfold pageW
  rw [List.length_take, List.length_drop]
  omega
theorem pageW_D (m : List Int) (p : Int) (hp : 0 ≤ p) (h : (p + 1) * 8 ≤ m.length) : DLe (.l (((p + 1) * 8 - p * 8)).toNat (fun i => intsF m ((p * 8).toNat + i))) (ints (pageW m p)) := by
  refine DLe.l (by rw [pageW_len m p hp h]; omega) (fun i hi => ?_)
  show [D.v (.int .i64 (m.getD ((p * 8).toNat + i) 0))] = [D.v (.int .i64 ((pageW m p).getD i 0))]
  unfold pageW
  have hi8 : i < 8 := by omega
  simp [List.getD, List.getElem?_take, hi8, List.getElem?_drop]
theorem c_impl_pageOf (m : List Int) (p : Int) (hp : 0 ≤ p) (hp2 : p ≤ 1048576) (h : (p + 1) * 8 ≤ m.length) : FnOK Try.prog 94 [.d (ints m), di p] (.r (.one (oInts (pageW m p)))) := by
  have w1 : IntKind.i64.wrap (p * 8) = p * 8 := wrap_i64 _ (by omega) (by omega)
  have w2 : IntKind.i64.wrap (IntKind.i64.wrap (p + 1) * 8) = (p + 1) * 8 := by rw [wrap_i64 (p + 1) (by omega) (by omega)]; exact wrap_i64 _ (by omega) (by omega)
  refine fn_of lv94 Try.func94 rfl rfl (by kernel_rfl) rfl ?_
  refine ask_intro ⟨by show 0 ≤ IntKind.i64.wrap (p * 8); omega, by show IntKind.i64.wrap (p * 8) ≤ IntKind.i64.wrap (IntKind.i64.wrap (p + 1) * 8); omega, by show IntKind.i64.wrap (IntKind.i64.wrap (p + 1) * 8) ≤ m.length; omega, .inr (fun i hi => rfl)⟩ ?_
  have hD := pageW_D m p hp h
  rw [← w2, ← w1] at hD
  refine .inl ⟨_, _, rfl, (c_slices_Clone (pageW m p) (by rw [pageW_len m p hp h]; omega)).weak ⟨LVLe.d hD, trivial⟩, rfl, ?_⟩
  exact ⟨⟨⟨rfl, rfl, rfl, fun i hi => ⟨rfl, rfl⟩⟩, trivial⟩, rfl⟩
def wordsL (m : List Int) (ps : List Int) : List Int := ps.flatMap (pageW m)
theorem wordsL_len (m : List Int) : ∀ (ps : List Int), (∀ p ∈ ps, 0 ≤ p ∧ (p + 1) * 8 ≤ m.length) → (wordsL m ps).length = 8 * ps.length
  | [], _ => rfl
  | p :: ps, h => by
    have h1 := h p (by simp)
    have h2 := wordsL_len m ps (fun q hq => h q (by simp [hq]))
    unfold wordsL at h2 ⊢
    rw [List.flatMap_cons, List.length_append, pageW_len m p h1.1 h1.2, h2]
    simp; omega
theorem upto_app (a b : List Int) (g : Nat → List D) (hg : ∀ j, j < b.length → g j = intsF b j) (i : Nat) (h : i < a.length + b.length) : upto a.length (intsF a) g i = intsF (a ++ b) i := by
  rw [← upto_ints]
  unfold upto
  split
  · rfl
  · exact hg _ (by omega)
theorem c_spec_l7Words (m ps : List Int) (hm : m.length ≤ 1048576) (hn : ps.length ≤ 1048576) (h : ∀ p ∈ ps, 0 ≤ p ∧ (p + 1) * 8 ≤ m.length) : FnOK Try.prog 93 [.d (ints m), .d (ints ps)] (.r (.one (oInts (wordsL m ps)))) := by
  refine fn_of lv93 Try.func93 rfl rfl (by kernel_rfl) rfl ?_
  refine ⟨{ i : Nat // i ≤ ps.length }, fun i => ⟨frL [(0, .d (ints m)), (1, .d (ints ps)), (5, .row 96), (6, di i.1)], hpL [(96, rowE (wordsL m (ps.take i.1)))], 97, 0⟩, fun i => ps.length - i.1, ⟨0, by omega⟩,
    le_of [(96, 4096)] rfl rfl rfl rfl (tellHp_row rfl rfl (by simp [wordsL]) (fun j hj => absurd hj (by omega)) tellHp_nil) (tellFr_d rfl (DLe.refl _) (tellFr_d rfl (DLe.refl _) (tellFr_row rfl rfl (tellFr_v rfl rfl trivial)))), ?_⟩
  rintro ⟨i, hi⟩
  refine bsplit_intro (fun hb => ?_) (fun hb => ?_)
  · have hb : i < ps.length := by simp at hb; exact hb
    have hpm : ps.getD i 0 ∈ ps := by simp [List.getD, List.getElem?_eq_getElem hb]
    have et : ps.take (i + 1) = ps.take i ++ [ps.getD i 0] := by rw [List.take_add_one]; simp [List.getD, List.getElem?_eq_getElem hb]
    have hlt := wordsL_len m (ps.take i) (fun q hq => h q (List.mem_of_mem_take hq))
    have ew : wordsL m (ps.take (i + 1)) = wordsL m (ps.take i) ++ pageW m (ps.getD i 0) := by rw [et]; simp [wordsL]
    have hwi : IntKind.i64.wrap ((i : Int) + 1) = ((i + 1 : Nat) : Int) := wrap_i64 (i + 1) (by omega) (by omega)
    obtain ⟨hp, hp2⟩ := h _ hpm
    have hpl := pageW_len m _ hp hp2
    have hlt2 : (wordsL m (ps.take i)).length ≤ 8388608 := by rw [hlt, List.length_take]; omega
    have w1 : IntKind.i64.wrap (ps.getD i 0 * 8) = ps.getD i 0 * 8 := wrap_i64 _ (by omega) (by omega)
    have w2 : IntKind.i64.wrap (IntKind.i64.wrap (ps.getD i 0 + 1) * 8) = (ps.getD i 0 + 1) * 8 := by rw [wrap_i64 (ps.getD i 0 + 1) (by omega) (by omega)]; exact wrap_i64 _ (by omega) (by omega)
    refine ask_intro ⟨by omega, by simp; omega, rfl⟩ ?_
    refine ask_intro ⟨by omega, by simp; omega, rfl⟩ ?_
    refine ask_intro ⟨by show 0 ≤ IntKind.i64.wrap (ps.getD i 0 * 8); omega, by show IntKind.i64.wrap (ps.getD i 0 * 8) ≤ IntKind.i64.wrap (IntKind.i64.wrap (ps.getD i 0 + 1) * 8); omega, by show IntKind.i64.wrap (IntKind.i64.wrap (ps.getD i 0 + 1) * 8) ≤ m.length; omega, .inr (fun i hi => rfl)⟩ ?_
    refine ask_intro ⟨by show ((wordsL m (ps.take i)).length + (IntKind.i64.wrap (IntKind.i64.wrap (ps.getD i 0 + 1) * 8) - IntKind.i64.wrap (ps.getD i 0 * 8)).toNat) * 8 ≤ 140737488355328; omega, by show (wordsL m (ps.take i)).length + (IntKind.i64.wrap (IntKind.i64.wrap (ps.getD i 0 + 1) * 8) - IntKind.i64.wrap (ps.getD i 0 * 8)).toNat ≤ 9223372036854775807; omega, fun j hj => rfl⟩ ?_
    refine chk_intro (by kernel_rfl) ?_
    refine ⟨⟨i + 1, by omega⟩, le_of [(96, 4641)] rfl rfl rfl rfl (tellHp_row rfl rfl ?_ (fun j hj => ?_) tellHp_nil) (tellFr_d rfl (DLe.refl _) (tellFr_d rfl (DLe.refl _) (tellFr_row rfl rfl (tellFr_v rfl (congrArg (Value.int .i64) hwi) trivial)))), by show ps.length - (i + 1) < ps.length - i; omega⟩
    · show (wordsL m (ps.take i)).length + (IntKind.i64.wrap (IntKind.i64.wrap (ps.getD i 0 + 1) * 8) - IntKind.i64.wrap (ps.getD i 0 * 8)).toNat = (wordsL m (ps.take (i + 1))).length
      rw [ew, List.length_append, hpl]; omega
    · have hj : j < (wordsL m (ps.take i)).length + (IntKind.i64.wrap (IntKind.i64.wrap (ps.getD i 0 + 1) * 8) - IntKind.i64.wrap (ps.getD i 0 * 8)).toNat := hj
      show upto (wordsL m (ps.take i)).length (intsF (wordsL m (ps.take i))) (fun q => intsF m ((IntKind.i64.wrap (ps.getD i 0 * 8)).toNat + q)) j = intsF (wordsL m (ps.take (i + 1))) j
      rw [ew]
      refine upto_app _ _ _ (fun q hq => ?_) j (by rw [hpl]; omega)
      rw [w1]
      show [D.v (.int .i64 (m.getD ((ps.getD i 0 * 8).toNat + q) 0))] = [D.v (.int .i64 ((pageW m (ps.getD i 0)).getD q 0))]
      unfold pageW
      have hq8 : q < 8 := by omega
      simp [List.getD, List.getElem?_take, hq8, List.getElem?_drop]
  · simp at hb
    have e : i = ps.length := by omega
    subst e
    refine ⟨⟨⟨rfl, rfl, ?_, fun j hj => ⟨?_, rfl⟩⟩, trivial⟩, rfl⟩
    · show (wordsL m (ps.take ps.length)).length = _
      rw [List.take_length]
    · show intsF (wordsL m (ps.take ps.length)) j = _
      rw [List.take_length]
end Go.Proofs.Ytfcekiehcchebaa.L
