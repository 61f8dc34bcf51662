/- What the functions compute that draw a machine and the words that it is fed: contracts. -/
import Derived.Test.YtfcekiehcchebaaDd
import Derived.Test.YtfcekiehcchebaaCk
set_option linter.unusedVariables false
set_option linter.unusedSimpArgs false
set_option maxRecDepth 100000
namespace Go.Proofs.Ytfcekiehcchebaa.L
open Go.RowKit
def newL (c : List Int) : Nat → Int → List Int → List Int × Int
  | 0, p, l => (l, p)
  | k + 1, p, l => newL c k (p + 5) (l ++ [wd c p])
theorem newL_len (c : List Int) : ∀ (k : Nat) (p : Int) (l : List Int), (newL c k p l).1.length = l.length + k
  | 0, p, l => rfl
  | k + 1, p, l => by rw [newL, newL_len c k]; simp; omega
def drawNew (c : List Int) : List Int :=
  let r := newL c (pk c (0 + 1 + 1) [nx c 0 5, nx c (0 + 1) 5, 40, 41]).toNat (0 + 1 + 1 + 1) []
  bif decide (0 < r.1.length) && (nx c r.2 10 == 0) then r.1.set 0 (wi c (r.2 + 1)) else r.1
theorem drawNew_len (c : List Int) (hc : okCode c) : (drawNew c).length ≤ 41 := by
  obtain ⟨ha1, ha2⟩ := nx_in (c := c) hc (p := 0) (n := 5) (by omega) (by omega)
  obtain ⟨hb1, hb2⟩ := nx_in (c := c) hc (p := 0 + 1) (n := 5) (by omega) (by omega)
  have hk := pk_mem (c := c) hc (p := 0 + 1 + 1) (l := [nx c 0 5, nx c (0 + 1) 5, 40, 41]) (by omega) (by simp)
  have e := newL_len c (pk c (0 + 1 + 1) [nx c 0 5, nx c (0 + 1) 5, 40, 41]).toNat (0 + 1 + 1 + 1) []
  simp only [List.mem_cons, List.not_mem_nil, or_false] at hk
  have h : (newL c (pk c (0 + 1 + 1) [nx c 0 5, nx c (0 + 1) 5, 40, 41]).toNat (0 + 1 + 1 + 1) []).1.length ≤ 41 := by rw [e]; show 0 + _ ≤ 41; omega
  unfold drawNew
  cases hb : (decide (0 < (newL c (pk c (0 + 1 + 1) [nx c 0 5, nx c (0 + 1) 5, 40, 41]).toNat (0 + 1 + 1 + 1) []).1.length) && (nx c (newL c (pk c (0 + 1 + 1) [nx c 0 5, nx c (0 + 1) 5, 40, 41]).toNat (0 + 1 + 1 + 1) []).2 10 == 0)) with
  | true => simp only [hb, cond_true]; rw [List.length_set]; exact h
  | false => simp only [hb, cond_false]; exact h
set_option maxHeartbeats 1000000 in
theorem c_spec_DrawNewHart (c : List Int) (hc : okCode c) : FnOK Try.prog 88 [.d (bytesD c)] (.r (.one (.sh (ints (drawNew c))))) := by
  have hlen := drawNew_len c hc
  generalize hv : drawNew c = res at hlen
  unfold drawNew at hv
  obtain ⟨ha1, ha2⟩ := nx_in (c := c) hc (p := 0) (n := 5) (by omega) (by omega)
  obtain ⟨hb1, hb2⟩ := nx_in (c := c) hc (p := 0 + 1) (n := 5) (by omega) (by omega)
  have hk0 := pk_mem (c := c) hc (p := 0 + 1 + 1) (l := [nx c 0 5, nx c (0 + 1) 5, 40, 41]) (by omega) (by simp)
  simp only [List.mem_cons, List.not_mem_nil, or_false] at hk0
  have ha := c_spec_l1Next c hc 0 5 (by omega) (by omega)
  have hb := c_spec_l1Next c hc (0 + 1) 5 (by omega) (by omega)
  have hP := c_spec_l1Pick c hc (0 + 1 + 1) [nx c 0 5, nx c (0 + 1) 5, 40, 41] (by omega) (by omega) (by simp)
  generalize nx c 0 5 = a at *
  generalize nx c (0 + 1) 5 = b at *
  generalize pk c (0 + 1 + 1) [a, b, 40, 41] = k0 at *
  refine fn_of lv88 Try.func88 rfl rfl (by kernel_rfl) rfl ?_
  refine .inr ⟨rfl, use_mut ⟨_, _, _, _, _, _, rfl, rfl, c_spec_l1Source c, rfl, ?_⟩⟩
  refine .inr ⟨rfl, use_mut ⟨_, _, _, _, _, _, rfl, rfl, ha, rfl, ?_⟩⟩
  refine .inr ⟨rfl, use_mut ⟨_, _, _, _, _, _, rfl, rfl, hb, rfl, ?_⟩⟩
  refine .inr ⟨rfl, use_mut ⟨_, _, _, _, _, _, rfl, rfl, hP, rfl, ?_⟩⟩
  refine ⟨{ x : Nat × List Int × Int // x.2.1.length + x.1 ≤ 41 ∧ 0 ≤ x.2.2 ∧ x.2.2 + 5 * (x.1 : Int) ≤ 1000 ∧ newL c x.1 x.2.2 x.2.1 = newL c k0.toNat (0 + 1 + 1 + 1) [] }, fun x => ⟨frL [(3, .ptr 10 0), (4, .row 11), (5, di x.1.1)], hpL [(10, srcBox c x.1.2.2), (11, rowE x.1.2.1)], 100, 0⟩, fun x => x.1.1, ⟨(k0.toNat, [], 0 + 1 + 1 + 1), by show 0 + k0.toNat ≤ 41; omega, by show (0 : Int) ≤ 0 + 1 + 1 + 1; omega, by show (0 : Int) + 1 + 1 + 1 + 5 * (k0.toNat : Int) ≤ 1000; omega, rfl⟩,
    le_of [(10, 4128), (11, 8192)] rfl rfl rfl rfl (tellHp_box rfl rfl ⟨DLe.refl _, rfl, trivial⟩ (tellHp_row rfl rfl rfl (fun j hj => absurd hj (by omega)) tellHp_nil)) (tellFr_ptr rfl rfl (tellFr_row rfl rfl (tellFr_v rfl (congrArg (Value.int .i64) (show k0 = (k0.toNat : Int) by omega)) trivial))), ?_⟩
  rintro ⟨⟨k, l, p⟩, h2, h3, h4, h5⟩
  simp only at h2 h3 h4 h5
  rw [← h5] at hv
  refine bsplit_intro (fun h => ?_) (fun h => ?_)
  · have hk : 0 < k := by simp at h; omega
    refine .inr ⟨rfl, use_mut ⟨_, _, _, _, _, _, rfl, rfl, c_spec_l1Word c hc p (by omega) (by omega), rfl, ?_⟩⟩
    refine ask_intro ⟨by show (l.length + 1) * 8 ≤ 140737488355328; omega, by show l.length + 1 ≤ 9223372036854775807; omega, one_len _⟩ ?_
    have hw : IntKind.i64.wrap ((k : Int) - 1) = ((k - 1 : Nat) : Int) := by rw [wrap_i64 _ (by omega) (by omega)]; omega
    exact ⟨⟨(k - 1, l ++ [wd c p], p + 5), by show (l ++ [wd c p]).length + (k - 1) ≤ 41; rw [List.length_append]; show l.length + 1 + (k - 1) ≤ 41; omega, by show 0 ≤ p + 5; omega, by show p + 5 + 5 * ((k - 1 : Nat) : Int) ≤ 1000; omega, by
        show newL c (k - 1) (p + 5) (l ++ [wd c p]) = _
        rw [← h5]; obtain ⟨k', rfl⟩ : ∃ k', k = k' + 1 := ⟨k - 1, by omega⟩
        rfl⟩,
      le_of [(10, 10), (11, 4324)] rfl rfl rfl rfl (tellHp_box rfl rfl ⟨DLe.refl _, rfl, trivial⟩ (tellHp_row rfl rfl (show l.length + 1 = (l ++ [wd c p]).length by simp) (fun j hj => app_ints' l (wd c p) j hj) tellHp_nil)) (tellFr_ptr rfl rfl (tellFr_row rfl rfl (tellFr_v rfl (congrArg (Value.int .i64) hw) trivial))), by show k - 1 < k; omega⟩
  have hk : k = 0 := by simp at h; omega
  subst hk
  change (bif decide (0 < l.length) && (nx c p 10 == 0) then l.set 0 (wi c (p + 1)) else l) = res at hv
  refine bsplit_intro (fun h5 => ?_) (fun h5 => ?_)
  · have hl : 0 < l.length := by simpa using h5
    rw [decide_eq_true hl, Bool.true_and] at hv
    repeat' (first | refine bsplit_true ?_ | refine bsplit_false ?_)
    refine .inr ⟨rfl, use_mut ⟨_, _, _, _, _, _, rfl, rfl, c_spec_l1Chance c hc p 10 (by omega) (by omega), rfl, ?_⟩⟩
    repeat' (first | refine bsplit_true ?_ | refine bsplit_false ?_)
    refine bsplit_intro (fun h6 => ?_) (fun h6 => ?_)
    · rw [h6] at hv
      subst hv
      refine .inr ⟨rfl, use_mut ⟨_, _, _, _, _, _, rfl, rfl, c_spec_l1Wide c hc (p + 1) (by omega) (by omega), rfl, ?_⟩⟩
      refine ask_intro ⟨by omega, by show (0 : Int) < l.length; omega⟩ ?_
      refine ask_intro (show 0 < l.length from hl) ?_
      exact ⟨⟨DLe.l (show l.length = (l.set 0 (wi c (p + 1))).length by simp) (fun i hi => set_at (l := l) (i := 0) rfl hl), trivial⟩, rfl⟩
    · rw [h6] at hv
      subst hv
      exact ⟨⟨DLe.refl _, trivial⟩, rfl⟩
  · have hl : ¬ 0 < l.length := by simp at h5; simp [h5]
    rw [decide_eq_false hl] at hv
    subst hv
    repeat' (first | refine bsplit_true ?_ | refine bsplit_false ?_)
    exact ⟨⟨DLe.refl _, trivial⟩, rfl⟩
theorem c_spec_DrawFeedHart (c : List Int) (hc : okCode c) : FnS Try.prog 30 [.d (bytesD c)] (fun r => ∃ (m : HartM) (l : List Int), m.small ∧ m.few ∧ l.length ≤ 41 ∧ r = .tup [hartSh m, .one (.sh (ints l))]) := by
  refine fnS_fn_of lv30 Try.func30 rfl rfl (by kernel_rfl) rfl ?_
  refine .inr ⟨rfl, use_mut ⟨_, _, _, _, _, _, rfl, rfl, c_spec_l1Source c, rfl, ?_⟩⟩
  refine .inr ⟨rfl, use_mutS ⟨_, _, _, _, rfl, rfl, c_spec_l8Bent c hc 0 (by omega) (by omega), rfl, ?_⟩⟩
  rintro _ _ _ ⟨m, q, hs, hf, hq1, hq2, rfl, rfl, rfl⟩
  refine ⟨rfl, ?_⟩
  refine .inl ⟨_, _, rfl, c_spec_DrawNewHart c hc, rfl, ?_⟩
  refine chk_intro (by kernel_rfl) ?_
  exact ⟨_, ⟨m, drawNew c, hs, hf, drawNew_len c hc, rfl⟩, ⟨DLe.refl _, rfl, DLe.refl _, rfl, rfl, rfl, rfl, DLe.refl _, DLe.refl _, DLe.refl _, trivial⟩, rfl⟩
end Go.Proofs.Ytfcekiehcchebaa.L
