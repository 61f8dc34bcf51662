/- The law FnExactLaneWords answers true at every input that its statement lets in. -/
import Derived.Test.YtdpahckfibnagaaRows
import Derived.Test.YtdpahckfibnagaaZ1
/- The law function over a lane's words answers true. -/
set_option linter.unusedVariables false
set_option linter.unusedSimpArgs false
set_option maxRecDepth 100000
namespace Go.Proofs.Ytdpahckfibnagaa.L
open Go.RowKit
theorem ints_b (l : List Int) (k : Int) (hf : l.length ≤ 1048576) (h1 : 0 ≤ k) (h2 : k ≤ 1099511627776) : 0 ≤ k + l.length ∧ k + l.length ≤ k + 1048576 := by omega
set_option maxHeartbeats 1600000 in
theorem c_laws_FnExactLaneWords (x0 : PolM) (x1 : List Int) (x2 : Int) (ho_x0 : x0.ok) (ho_x1 : okInts x1) (ho_x2 : ok64 x2) : FnOK Try.prog 14 [polLV x0, .d (ints x1), di x2] (rb true) := by
  have hs_x0 := ho_x0.small
  have hl8_x1 : x1.length * 8 ≤ 140737488355328 := by have := ho_x1.1; rw [reach_eq] at this; omega
  refine fn_of lv14 Try.func14 rfl rfl (by kernel_rfl) rfl ?_
  refine bsplit_intro (fun h => ?_) (fun h => ?_)
  · exact ⟨⟨rfl, trivial⟩, rfl⟩
  have hf_x1 : x1.length ≤ 1048576 := by simp at h; omega
  refine .inl ⟨_, _, rfl, c_laws_szPolicy x0 hs_x0 (1048576) (by omega) (by omega), rfl, ?_⟩
  refine bsplit_intro (fun h => ?_) (fun h => ?_)
  · exact ⟨⟨rfl, trivial⟩, rfl⟩
  have hf_x0 : (x0.size : Int) ≤ 1048576 := szP_of h
  have cs := c_spec_LaneWords x0 hs_x0 x1 hf_x1 x2
  have ci := c_impl_LaneWords x0 hs_x0 x1 hf_x1 x2
  have hf := laneWords_few x0 x1 x2
  obtain ⟨p, hp⟩ : ∃ p, p = laneWords x0 x1 x2 := ⟨_, rfl⟩
  rw [← hp] at cs ci hf
  have hkp : 0 ≤ 1 + (p.2.length : Int) := by omega
  have hk : ¬ 1 + (p.2.length : Int) < 0 := by omega
  have hb0 := polK_b x0 (1) hf_x0 (by omega) (by omega)
  have hb1 := ints_b x1 (polK x0 (1)) hf_x1 hb0.1 (by have := hb0.2; omega)
  refine .inl ⟨_, _, rfl, c_laws_toPolicy x0 hs_x0, rfl, ?_⟩
  repeat' (first | refine bsplit_true ?_ | refine bsplit_false ?_ | refine chk_intro (by kernel_rfl) ?_ | refine bsplit_of_false (by simp; done) ?_)
  refine .inl ⟨_, _, rfl, c_laws_toInt64S x1 hl8_x1, rfl, ?_⟩
  repeat' (first | refine bsplit_true ?_ | refine bsplit_false ?_ | refine chk_intro (by kernel_rfl) ?_ | refine bsplit_of_false (by simp; done) ?_)
  refine .inl ⟨_, _, rfl, cs, rfl, ?_⟩
  repeat' (first | refine bsplit_true ?_ | refine bsplit_false ?_ | refine chk_intro (by kernel_rfl) ?_ | refine bsplit_of_false (by simp; done) ?_)
  refine .inl ⟨_, _, rfl, c_laws_toPolicy x0 hs_x0, rfl, ?_⟩
  repeat' (first | refine bsplit_true ?_ | refine bsplit_false ?_ | refine chk_intro (by kernel_rfl) ?_ | refine bsplit_of_false (by simp; done) ?_)
  refine .inl ⟨_, _, rfl, c_laws_toInt64S x1 hl8_x1, rfl, ?_⟩
  repeat' (first | refine bsplit_true ?_ | refine bsplit_false ?_ | refine chk_intro (by kernel_rfl) ?_ | refine bsplit_of_false (by simp; done) ?_)
  refine .inl ⟨_, _, rfl, ci, rfl, ?_⟩
  repeat' (first | refine bsplit_true ?_ | refine bsplit_false ?_ | refine chk_intro (by kernel_rfl) ?_ | refine bsplit_of_false (by simp; done) ?_)
  refine .inl ⟨_, _, rfl, c_laws_eqIntsResult p p (by omega), rfl, ?_⟩
  repeat' (first | refine bsplit_true ?_ | refine bsplit_false ?_ | refine chk_intro (by kernel_rfl) ?_ | refine bsplit_of_false (by simp; done) ?_)
  refine .inl ⟨_, _, rfl, c_laws_toPolicy x0 hs_x0, rfl, ?_⟩
  repeat' (first | refine bsplit_true ?_ | refine bsplit_false ?_ | refine chk_intro (by kernel_rfl) ?_ | refine bsplit_of_false (by simp; done) ?_)
  refine .inl ⟨_, _, rfl, c_laws_eqPolicy x0 x0 hs_x0, rfl, ?_⟩
  repeat' (first | refine bsplit_true ?_ | refine bsplit_false ?_ | refine chk_intro (by kernel_rfl) ?_ | refine bsplit_of_false (by simp; done) ?_)
  refine .inl ⟨_, _, rfl, c_laws_toInt64S x1 hl8_x1, rfl, ?_⟩
  repeat' (first | refine bsplit_true ?_ | refine bsplit_false ?_ | refine chk_intro (by kernel_rfl) ?_ | refine bsplit_of_false (by simp; done) ?_)
  refine .inl ⟨_, _, rfl, c_laws_eqInt64S x1 x1 (by omega), rfl, ?_⟩
  repeat' (first | refine bsplit_true ?_ | refine bsplit_false ?_ | refine chk_intro (by kernel_rfl) ?_ | refine bsplit_of_false (by simp; done) ?_)
  refine .inr ⟨rfl, use_mut ⟨_, _, _, _, _, _, rfl, rfl, c_laws_markPolicy x0 (1) hf_x0 (by omega) (by omega), rfl, ?_⟩⟩
  repeat' (first | refine bsplit_true ?_ | refine bsplit_false ?_ | refine chk_intro (by kernel_rfl) ?_)
  refine .inr ⟨rfl, use_mut ⟨_, _, _, _, _, _, rfl, rfl, c_laws_markInt64S x1 (polK x0 (1)) (by omega) hb0.1 (by have := hb0.2; omega), rfl, ?_⟩⟩
  repeat' (first | refine bsplit_true ?_ | refine bsplit_false ?_ | refine chk_intro (by kernel_rfl) ?_)
  try refine bsplit_of_false (decide_eq_false (show ¬ ((polK x0 (1)) + (x1.length : Int)) < 0 by have := hb1.1; omega)) ?_
  repeat' (first | refine bsplit_true ?_ | refine bsplit_false ?_ | refine chk_intro (by kernel_rfl) ?_ | refine bsplit_of_false (by simp; done) ?_)
  refine .inl ⟨_, _, rfl, c_laws_eqIntsResult p p (by omega), rfl, ?_⟩
  repeat' (first | refine bsplit_true ?_ | refine bsplit_false ?_ | refine chk_intro (by kernel_rfl) ?_ | refine bsplit_of_false (by simp; done) ?_)
  refine .inr ⟨rfl, use_mut ⟨_, _, _, _, _, _, rfl, rfl, c_laws_markIntsResult p 1 (by omega) (by omega) (by omega), rfl, ?_⟩⟩
  repeat' (first | refine bsplit_true ?_ | refine bsplit_false ?_ | refine chk_intro (by kernel_rfl) ?_)
  refine .inl ⟨_, _, rfl, c_laws_heldIntsResult p 1 (by omega) (by omega) (by omega), rfl, ?_⟩
  repeat' (first | refine bsplit_true ?_ | refine bsplit_false ?_ | refine chk_intro (by kernel_rfl) ?_)
  try refine bsplit_of_false (decide_eq_false hk) ?_
  repeat' (first | refine bsplit_true ?_ | refine bsplit_false ?_ | refine chk_intro (by kernel_rfl) ?_ | refine bsplit_of_false (by simp; done) ?_)
  refine .inl ⟨_, _, rfl, c_laws_toPolicy x0 hs_x0, rfl, ?_⟩
  repeat' (first | refine bsplit_true ?_ | refine bsplit_false ?_ | refine chk_intro (by kernel_rfl) ?_ | refine bsplit_of_false (by simp; done) ?_)
  refine .inl ⟨_, _, rfl, c_laws_toInt64S x1 hl8_x1, rfl, ?_⟩
  repeat' (first | refine bsplit_true ?_ | refine bsplit_false ?_ | refine chk_intro (by kernel_rfl) ?_ | refine bsplit_of_false (by simp; done) ?_)
  refine .inl ⟨_, _, rfl, ci, rfl, ?_⟩
  repeat' (first | refine bsplit_true ?_ | refine bsplit_false ?_ | refine chk_intro (by kernel_rfl) ?_ | refine bsplit_of_false (by simp; done) ?_)
  refine .inl ⟨_, _, rfl, c_laws_eqIntsResult p p (by omega), rfl, ?_⟩
  repeat' (first | refine bsplit_true ?_ | refine bsplit_false ?_ | refine chk_intro (by kernel_rfl) ?_ | refine bsplit_of_false (by simp; done) ?_)
  refine .inl ⟨_, _, rfl, c_laws_heldIntsResult p 1 (by omega) (by omega) (by omega), rfl, ?_⟩
  repeat' (first | refine bsplit_true ?_ | refine bsplit_false ?_ | refine chk_intro (by kernel_rfl) ?_)
  try refine bsplit_of_false (decide_eq_false hk) ?_
  repeat' (first | refine bsplit_true ?_ | refine bsplit_false ?_ | refine chk_intro (by kernel_rfl) ?_ | refine bsplit_of_false (by simp; done) ?_)
  exact ⟨⟨rfl, trivial⟩, rfl⟩

end Go.Proofs.Ytdpahckfibnagaa.L

/- The law FnExactLaneWords answers true at every input that its statement lets in. -/
set_option linter.unusedVariables false
set_option maxRecDepth 100000
namespace Go.Proofs.Ytdpahckfibnagaa.L.FnExactLaneWords
open Go.RowKit Go.ChangeShapes Go.WideShapes Go.ChangeAt
theorem lifted (os : Os) (started : os.Started) (H : Type) (enc : TypeId × Value → H) :
    ReturnsInHanded {} Try.checked os 14 .any (Rows.fnExactLaneWordsSpec.pre6 enc Try.prog Try.f14 Rows.fnExactLaneWordsRow.domain false) (Rows.fnExactLaneWordsSpec.post enc Try.prog Try.f14 false true false false) := by
  refine returnsInHanded_of_change_sized (C := Try.checked) own started (by kernel_rfl) Try.func14
    (ChangeSpec.witness6 (enc := enc) (C := Try.checked) false ⟨#[], #[.agg #[.slice none 0 0, .slice none 0 0, .slice none 0 0, .slice none 0 0], .slice none 0 0, .int .i64 0], []⟩ 8 (by kernel_rfl) (by kernel_rfl) (by kernel_rfl) (by kernel_rfl)) ?_
  intro W base args ds gs before hval0 hW hcnd hsz0 _
  have hsz : (DataW.weightsEach Try.prog (Try.f14.params.toList ++ Rows.fnExactLaneWordsSpec.plain.varTypes Try.prog) (ds ++ gs)).all (· ≤ reachBytes) = true := hsz0
  have hval : ∀ (j : Nat) t v, Try.f14.params[j]? = some t → args[j]? = some v → Value.okWide Try.prog W .any base t v := hval0
  have hW' := hW
  obtain ⟨p, q, hA0, hV, rfl, hfz, hnd⟩ := hW
  have hA : DataW.TrodAll enc Try.prog W 0 (fun _ => true) true Try.f14.params.toList args.toList ds p := hA0
  rw [Try.params14] at hA hval hsz
  obtain ⟨v0, vs0, d0, ds0, p0, q0, hargs, rfl, rfl, h0, r0⟩ := trodAll_cons hA
  obtain ⟨v1, vs1, d1, ds1, p1, q1, rfl, rfl, rfl, h1, r1⟩ := trodAll_cons r0
  obtain ⟨v2, vs2, d2, ds2, p2, q2, rfl, rfl, rfl, h2, r2⟩ := trodAll_cons r1
  obtain ⟨rfl, rfl, rfl⟩ := trodAll_nil r2
  obtain rfl : args = #[v0, v1, v2] := by cases args; simp_all
  obtain ⟨rfl, rfl⟩ := trodVars_none hV
  have hsm : ∀ k ∈ DataW.weightsEach Try.prog ([27, 56, 2] ++ Rows.fnExactLaneWordsSpec.plain.varTypes Try.prog) ([d0, d1, d2] ++ []), k ≤ reachBytes := fun k hk => by simpa using List.all_eq_true.1 hsz k hk
  have k0 := h0
  have lt0 : ∀ x ∈ p0, x.block < W.heap.size := by obtain ⟨m, hm⟩ := k0; exact DataW.trod_lt m _ _ _ hm
  obtain ⟨m0, hm0, hvr0⟩ := reads_Policy.agg Try.underlying27 (hval 0 27 v0 rfl rfl) h0 (fun k hk => hsm k (DataW.weights_mem_each (j := 0) rfl rfl k hk))
  have k1 := h1
  have lt1 : ∀ x ∈ p1, x.block < W.heap.size := by obtain ⟨m, hm⟩ := k1; exact DataW.trod_lt m _ _ _ hm
  have c1 : v1.cells = #[v1] := by have z := okWide_slice Try.underlying56 (hval 1 56 v1 rfl rfl); (first | (obtain ⟨_, rfl⟩ := z; rfl) | (obtain ⟨_, _, _, rfl⟩ := z; rfl))
  obtain ⟨m1, hm1, hvr1⟩ := reads_ints.one c1 h1 (fun k hk => hsm k (DataW.weights_mem_each (j := 1) rfl rfl k hk))
  have k2 := h2
  have lt2 : ∀ x ∈ p2, x.block < W.heap.size := by obtain ⟨m, hm⟩ := k2; exact DataW.trod_lt m _ _ _ hm
  have c2 : v2.cells = #[v2] := by have z := okWide_int Try.underlying2 (hval 2 2 v2 rfl rfl); (first | (obtain ⟨_, rfl⟩ := z; rfl) | (obtain ⟨_, _, _, rfl⟩ := z; rfl))
  obtain ⟨m2, hm2, hvr2⟩ := reads_int64.one c2 h2 (fun k hk => hsm k (DataW.weights_mem_each (j := 2) rfl rfl k hk))
  refine ((c_laws_FnExactLaneWords m0 m1 m2 hm0 hm1 hm2).calls W (Mem W) [v0, v1, v2] (fun b hb => hb) rfl (fun j hj => ?_)).mono fun e W' ⟨v, he, bel, hrr⟩ => ?_
  · match j, hj with
    | 0, _ => exact hvr0
    | 1, _ => exact hvr1
    | 2, _ => exact hvr2
    | j + 3, hj => exact absurd hj (by simp)
  · obtain ⟨us, J, hl, rfl, hJ, hok, _, _⟩ := hrr.ex
    have h1 := hok 0 _ rfl
    have h2 : RV.val us (rb true) = .bool true := h1
    rw [h2] at he
    subst he
    exact ⟨_, rfl, _, _, _, [], _, [], hW', trodAll_mk1 (shut_bool Try.underlying4 _), (trodAll_cons_mk (Below.trod laidOut (by kernel_rfl) (of_decide_eq_true (by kernel_rfl)) k0 bel lt0) (trodAll_cons_mk (Below.trod laidOut (by kernel_rfl) (of_decide_eq_true (by kernel_rfl)) k1 bel lt1) (trodAll_cons_mk (Below.trod laidOut (by kernel_rfl) (of_decide_eq_true (by kernel_rfl)) k2 bel lt2) trodAll_mk0))), rfl, bel.frame _, fun h => by cases h⟩
theorem over : Rows.fnExactLaneWordsRow.holds Try.pinned (OpenSpec.ofChange Rows.fnExactLaneWordsSpec) :=
  OpenClaim.holds_of_wide 14 Try.f14 rfl rfl rfl rfl rfl rfl rfl ⟨rfl, rfl, rfl, rfl, rfl⟩ rfl rfl rfl rfl rfl (by kernel_rfl) Try.func14 (by kernel_rfl)
    (of_decide_eq_true (by kernel_rfl)) (by unfold Func.isWrapper; first | (rw [if_pos (by decide +kernel)]; kernel_rfl) | (rw [if_neg (by decide +kernel)]; exact ⟨rfl, rfl⟩))
    (fun os started H enc _ => lifted os started H enc)
end Go.Proofs.Ytdpahckfibnagaa.L.FnExactLaneWords
namespace Go.Proofs.Ytdpahckfibnagaa
theorem fnExactLaneWords_holds : Rows.FnExactLaneWordsSaid := L.FnExactLaneWords.over
#print axioms fnExactLaneWords_holds
end Go.Proofs.Ytdpahckfibnagaa
