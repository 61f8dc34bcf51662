/- What the functions compute that answer with a machine's device page: contracts. -/
import Derived.Test.YtfcekiehcchebaaCk
import Derived.Test.YtfcekiehcchebaaWd
set_option linter.unusedVariables false
set_option linter.unusedSimpArgs false
set_option maxRecDepth 100000
namespace Go.Proofs.Ytfcekiehcchebaa.L
open Go.RowKit
structure DevM where
  code : Int
  val : Int
  ring : Int
  hart : HartM
  deriving DecidableEq
abbrev hartC0 (m : HartM) : List LV := [.d (ints m.regs), di m.pc, .d (ints m.csr), dv (.bool m.halted), dv (.bool m.waiting), dv (.bool m.rung), di m.done, .d (ints m.inp), .d (ints m.out)]
abbrev devLV (p : DevM) : LV := .agg (di p.code :: di p.val :: di p.ring :: hartC0 p.hart)
abbrev devR (p : DevM) : RV1 := .agg [.v (.int .i64 p.code), .v (.int .i64 p.val), .v (.int .i64 p.ring), oInts p.hart.regs, .v (.int .i64 p.hart.pc), oInts p.hart.csr, .v (.bool p.hart.halted), .v (.bool p.hart.waiting), .v (.bool p.hart.rung), .v (.int .i64 p.hart.done), oInts p.hart.inp, oInts p.hart.out]
abbrev devS (p : DevM) : RV1 := .agg [.v (.int .i64 p.code), .v (.int .i64 p.val), .v (.int .i64 p.ring), oInts p.hart.regs, .v (.int .i64 p.hart.pc), oInts p.hart.csr, .v (.bool p.hart.halted), .v (.bool p.hart.waiting), .v (.bool p.hart.rung), .v (.int .i64 p.hart.done), .sh (ints p.hart.inp), oInts p.hart.out]
def devBad (c : Int) : DevM := ⟨c, 0, 0, hartZ⟩
theorem c_spec_l9Bad (c : Int) : FnOK Try.prog 76 [di c] (.r (devR (devBad c))) := by
  refine fn_of lv76 Try.func76 rfl rfl (by kernel_rfl) rfl ?_
  exact ⟨⟨rfl, rfl, rfl, ⟨rfl, rfl⟩, rfl, ⟨rfl, rfl⟩, rfl, rfl, rfl, rfl, ⟨rfl, rfl⟩, ⟨rfl, rfl⟩, trivial⟩, rfl⟩
def deviceRead (m : HartM) (k : Int) : DevM := if hFault m = 0 then (bif !inR k 0 7 then devBad 3 else ⟨0, readV m k, -1, readM m k⟩) else devBad (hFault m)
def deviceWrite (m : HartM) (k w : Int) : DevM := if hFault m = 0 then (bif !inR k 0 7 then devBad 3 else ⟨0, 0, writeV k w, writeM m k w⟩) else devBad (hFault m)
theorem c_impl_DeviceRead (m : HartM) (hs : m.small) (k : Int) : FnOK Try.prog 21 [hartLV m, di k] (.r (devR (deviceRead m k))) := by
  generalize hp : deviceRead m k = p
  unfold deviceRead at hp
  refine fn_of lv21 Try.func21 rfl rfl (by kernel_rfl) rfl ?_
  refine .inl ⟨_, _, rfl, c_impl_HartFault m hs, rfl, ?_⟩
  refine bsplit_intro (fun h => ?_) (fun h => ?_)
  · rw [if_neg (by simpa using h)] at hp
    subst hp
    exact ⟨⟨rfl, rfl, rfl, ⟨rfl, rfl⟩, rfl, ⟨rfl, rfl⟩, rfl, rfl, rfl, rfl, ⟨rfl, rfl⟩, ⟨rfl, rfl⟩, trivial⟩, rfl⟩
  have h0 := fault_ne h
  rw [if_pos h0] at hp
  refine .inl ⟨_, _, rfl, c_impl_within _ _ _, rfl, ?_⟩
  repeat' (first | refine bsplit_true ?_ | refine bsplit_false ?_)
  refine bsplit_intro (fun h1 => ?_) (fun h1 => ?_)
  · rw [h1] at hp
    subst hp
    exact ⟨⟨rfl, rfl, rfl, ⟨rfl, rfl⟩, rfl, ⟨rfl, rfl⟩, rfl, rfl, rfl, rfl, ⟨rfl, rfl⟩, ⟨rfl, rfl⟩, trivial⟩, rfl⟩
  rw [h1] at hp
  subst hp
  have z := hFault_zero h0
  refine .inl ⟨_, _, rfl, c_impl_Hart_own m hs, rfl, ?_⟩
  refine .inr ⟨rfl, use_mut ⟨_, _, _, _, _, _, rfl, rfl, c_impl_Hart_readDevice m k z.2.1 z.2.2.1, rfl, ?_⟩⟩
  exact ⟨⟨rfl, rfl, rfl, ⟨rfl, rfl, rfl, fun i hi => ⟨rfl, rfl⟩⟩, rfl, ⟨rfl, rfl, rfl, fun i hi => ⟨rfl, rfl⟩⟩, rfl, rfl, rfl, rfl, ⟨rfl, rfl, rfl, fun i hi => ⟨rfl, rfl⟩⟩, ⟨rfl, rfl, rfl, fun i hi => ⟨rfl, rfl⟩⟩, trivial⟩, rfl⟩
theorem c_spec_DeviceRead (m : HartM) (hs : m.small) (k : Int) : FnOK Try.prog 19 [hartLV m, di k] (.r (devS (deviceRead m k))) := by
  generalize hp : deviceRead m k = p
  unfold deviceRead at hp
  refine fn_of lv19 Try.func19 rfl rfl (by kernel_rfl) rfl ?_
  refine .inl ⟨_, _, rfl, c_spec_l8Fault m hs, rfl, ?_⟩
  refine bsplit_intro (fun h => ?_) (fun h => ?_)
  · rw [if_neg (by simpa using h)] at hp
    subst hp
    refine .inl ⟨_, _, rfl, c_spec_l9Bad (hFault m), rfl, ?_⟩
    exact ⟨⟨rfl, rfl, rfl, ⟨rfl, rfl, rfl, fun i hi => ⟨rfl, rfl⟩⟩, rfl, ⟨rfl, rfl, rfl, fun i hi => ⟨rfl, rfl⟩⟩, rfl, rfl, rfl, rfl, DLe.refl _, ⟨rfl, rfl, rfl, fun i hi => ⟨rfl, rfl⟩⟩, trivial⟩, rfl⟩
  have h0 := fault_ne h
  rw [if_pos h0] at hp
  refine .inl ⟨_, _, rfl, c_spec_l1In _ _ _, rfl, ?_⟩
  repeat' (first | refine bsplit_true ?_ | refine bsplit_false ?_)
  refine bsplit_intro (fun h1 => ?_) (fun h1 => ?_)
  · rw [h1] at hp
    subst hp
    refine .inl ⟨_, _, rfl, c_spec_l9Bad 3, rfl, ?_⟩
    exact ⟨⟨rfl, rfl, rfl, ⟨rfl, rfl, rfl, fun i hi => ⟨rfl, rfl⟩⟩, rfl, ⟨rfl, rfl, rfl, fun i hi => ⟨rfl, rfl⟩⟩, rfl, rfl, rfl, rfl, DLe.refl _, ⟨rfl, rfl, rfl, fun i hi => ⟨rfl, rfl⟩⟩, trivial⟩, rfl⟩
  rw [h1] at hp
  subst hp
  have z := hFault_zero h0
  refine .inl ⟨_, _, rfl, c_spec_l8Copy m hs, rfl, ?_⟩
  refine .inr ⟨rfl, use_mut ⟨_, _, _, _, _, _, rfl, rfl, c_spec_l9Read m k z.2.1 z.2.2.1, rfl, ?_⟩⟩
  exact ⟨⟨rfl, rfl, rfl, ⟨rfl, rfl, rfl, fun i hi => ⟨rfl, rfl⟩⟩, rfl, ⟨rfl, rfl, rfl, fun i hi => ⟨rfl, rfl⟩⟩, rfl, rfl, rfl, rfl, DLe.refl _, ⟨rfl, rfl, rfl, fun i hi => ⟨rfl, rfl⟩⟩, trivial⟩, rfl⟩
theorem c_spec_DeviceWrite (m : HartM) (hs : m.small) (k w : Int) : FnOK Try.prog 27 [hartLV m, di k, di w] (.r (devR (deviceWrite m k w))) := by
  generalize hp : deviceWrite m k w = p
  unfold deviceWrite at hp
  refine fn_of lv27 Try.func27 rfl rfl (by kernel_rfl) rfl ?_
  refine .inl ⟨_, _, rfl, c_spec_l8Fault m hs, rfl, ?_⟩
  refine bsplit_intro (fun h => ?_) (fun h => ?_)
  · rw [if_neg (by simpa using h)] at hp
    subst hp
    first
      | exact ⟨⟨rfl, rfl, rfl, ⟨rfl, rfl⟩, rfl, ⟨rfl, rfl⟩, rfl, rfl, rfl, rfl, ⟨rfl, rfl⟩, ⟨rfl, rfl⟩, trivial⟩, rfl⟩
      | (refine .inl ⟨_, _, rfl, c_spec_l9Bad (hFault m), rfl, ?_⟩
         exact ⟨⟨rfl, rfl, rfl, ⟨rfl, rfl, rfl, fun i hi => ⟨rfl, rfl⟩⟩, rfl, ⟨rfl, rfl, rfl, fun i hi => ⟨rfl, rfl⟩⟩, rfl, rfl, rfl, rfl, ⟨rfl, rfl, rfl, fun i hi => ⟨rfl, rfl⟩⟩, ⟨rfl, rfl, rfl, fun i hi => ⟨rfl, rfl⟩⟩, trivial⟩, rfl⟩)
  have h0 := fault_ne h
  rw [if_pos h0] at hp
  refine .inl ⟨_, _, rfl, c_spec_l1In _ _ _, rfl, ?_⟩
  repeat' (first | refine bsplit_true ?_ | refine bsplit_false ?_)
  refine bsplit_intro (fun h1 => ?_) (fun h1 => ?_)
  · rw [h1] at hp
    subst hp
    first
      | exact ⟨⟨rfl, rfl, rfl, ⟨rfl, rfl⟩, rfl, ⟨rfl, rfl⟩, rfl, rfl, rfl, rfl, ⟨rfl, rfl⟩, ⟨rfl, rfl⟩, trivial⟩, rfl⟩
      | (refine .inl ⟨_, _, rfl, c_spec_l9Bad 3, rfl, ?_⟩
         exact ⟨⟨rfl, rfl, rfl, ⟨rfl, rfl, rfl, fun i hi => ⟨rfl, rfl⟩⟩, rfl, ⟨rfl, rfl, rfl, fun i hi => ⟨rfl, rfl⟩⟩, rfl, rfl, rfl, rfl, ⟨rfl, rfl, rfl, fun i hi => ⟨rfl, rfl⟩⟩, ⟨rfl, rfl, rfl, fun i hi => ⟨rfl, rfl⟩⟩, trivial⟩, rfl⟩)
  rw [h1] at hp
  subst hp
  have z := hFault_zero h0
  refine .inl ⟨_, _, rfl, c_spec_l8Copy m hs, rfl, ?_⟩
  refine .inr ⟨rfl, use_mut ⟨_, _, _, _, _, _, rfl, rfl, c_spec_l9Write m k w z.2.1 z.2.2.2, rfl, ?_⟩⟩
  exact ⟨⟨rfl, rfl, rfl, ⟨rfl, rfl, rfl, fun i hi => ⟨rfl, rfl⟩⟩, rfl, ⟨rfl, rfl, rfl, fun i hi => ⟨rfl, rfl⟩⟩, rfl, rfl, rfl, rfl, ⟨rfl, rfl, rfl, fun i hi => ⟨rfl, rfl⟩⟩, ⟨rfl, rfl, rfl, fun i hi => ⟨rfl, rfl⟩⟩, trivial⟩, rfl⟩
theorem c_impl_DeviceWrite (m : HartM) (hs : m.small) (k w : Int) : FnOK Try.prog 28 [hartLV m, di k, di w] (.r (devR (deviceWrite m k w))) := by
  generalize hp : deviceWrite m k w = p
  unfold deviceWrite at hp
  refine fn_of lv28 Try.func28 rfl rfl (by kernel_rfl) rfl ?_
  refine .inl ⟨_, _, rfl, c_impl_HartFault m hs, rfl, ?_⟩
  refine bsplit_intro (fun h => ?_) (fun h => ?_)
  · rw [if_neg (by simpa using h)] at hp
    subst hp
    first
      | exact ⟨⟨rfl, rfl, rfl, ⟨rfl, rfl⟩, rfl, ⟨rfl, rfl⟩, rfl, rfl, rfl, rfl, ⟨rfl, rfl⟩, ⟨rfl, rfl⟩, trivial⟩, rfl⟩
      | (refine .inl ⟨_, _, rfl, c_spec_l9Bad (hFault m), rfl, ?_⟩
         exact ⟨⟨rfl, rfl, rfl, ⟨rfl, rfl, rfl, fun i hi => ⟨rfl, rfl⟩⟩, rfl, ⟨rfl, rfl, rfl, fun i hi => ⟨rfl, rfl⟩⟩, rfl, rfl, rfl, rfl, ⟨rfl, rfl, rfl, fun i hi => ⟨rfl, rfl⟩⟩, ⟨rfl, rfl, rfl, fun i hi => ⟨rfl, rfl⟩⟩, trivial⟩, rfl⟩)
  have h0 := fault_ne h
  rw [if_pos h0] at hp
  refine .inl ⟨_, _, rfl, c_impl_within _ _ _, rfl, ?_⟩
  repeat' (first | refine bsplit_true ?_ | refine bsplit_false ?_)
  refine bsplit_intro (fun h1 => ?_) (fun h1 => ?_)
  · rw [h1] at hp
    subst hp
    first
      | exact ⟨⟨rfl, rfl, rfl, ⟨rfl, rfl⟩, rfl, ⟨rfl, rfl⟩, rfl, rfl, rfl, rfl, ⟨rfl, rfl⟩, ⟨rfl, rfl⟩, trivial⟩, rfl⟩
      | (refine .inl ⟨_, _, rfl, c_spec_l9Bad 3, rfl, ?_⟩
         exact ⟨⟨rfl, rfl, rfl, ⟨rfl, rfl, rfl, fun i hi => ⟨rfl, rfl⟩⟩, rfl, ⟨rfl, rfl, rfl, fun i hi => ⟨rfl, rfl⟩⟩, rfl, rfl, rfl, rfl, ⟨rfl, rfl, rfl, fun i hi => ⟨rfl, rfl⟩⟩, ⟨rfl, rfl, rfl, fun i hi => ⟨rfl, rfl⟩⟩, trivial⟩, rfl⟩)
  rw [h1] at hp
  subst hp
  have z := hFault_zero h0
  refine .inl ⟨_, _, rfl, c_impl_Hart_own m hs, rfl, ?_⟩
  refine .inr ⟨rfl, use_mut ⟨_, _, _, _, _, _, rfl, rfl, c_impl_Hart_writeDevice m k w z.2.1 z.2.2.2, rfl, ?_⟩⟩
  exact ⟨⟨rfl, rfl, rfl, ⟨rfl, rfl, rfl, fun i hi => ⟨rfl, rfl⟩⟩, rfl, ⟨rfl, rfl, rfl, fun i hi => ⟨rfl, rfl⟩⟩, rfl, rfl, rfl, rfl, ⟨rfl, rfl, rfl, fun i hi => ⟨rfl, rfl⟩⟩, ⟨rfl, rfl, rfl, fun i hi => ⟨rfl, rfl⟩⟩, trivial⟩, rfl⟩
theorem c_laws_eqDeviceResult (p q : DevM) (hs : p.hart.small) : FnOK Try.prog 22 [devLV p, devLV q] (rb (decide (p = q))) := by
  refine fn_of lv22 Try.func22 rfl rfl (by kernel_rfl) rfl ?_
  repeat' (first | refine bsplit_true ?_ | refine bsplit_false ?_ | refine .inl ⟨_, _, rfl, c_laws_eqHart p.hart q.hart hs, rfl, ?_⟩ | refine bsplit_intro (fun h => ?_) (fun h => ?_))
  all_goals refine ⟨⟨congrArg Value.bool ?_, trivial⟩, rfl⟩
  all_goals (obtain ⟨a1, a2, a3, a4⟩ := p; obtain ⟨b1, b2, b3, b4⟩ := q; simp_all)
theorem c_laws_markDeviceResult (p : DevM) (k : Int) (hf : p.hart.few) (hk : 0 ≤ k) (hk2 : k ≤ 1048576) : MutOK Try.prog 25 [.agg (di p.code :: di p.val :: di p.ring :: hartK p.hart 0 1 2 3), di k] 4 (hRows p.hart) (di (hK4 p.hart k)) 4 (hMarks p.hart k) := by
  refine mut_fn_of lv25 Try.func25 rfl rfl (by kernel_rfl) rfl [] ?_
  refine .inr ⟨rfl, use_mut ⟨_, _, _, _, _, _, rfl, rfl, c_laws_markHart p.hart k hf hk hk2, rfl, ?_⟩⟩
  exact chk_intro (by kernel_rfl) ⟨tellV_v rfl rfl, tellHp_row rfl rfl rfl (fun j hj => rfl) (tellHp_row rfl rfl rfl (fun j hj => rfl) (tellHp_row rfl rfl rfl (fun j hj => rfl) (tellHp_row rfl rfl rfl (fun j hj => rfl) tellHp_nil)))⟩
theorem c_laws_heldDeviceResult (p : DevM) (k : Int) (hf : p.hart.few) (hk : 0 ≤ k) (hk2 : k ≤ 1048576) : FnOK Try.prog 26 [.agg [di p.code, di p.val, di p.ring, datM p.hart.regs k, di p.hart.pc, datM p.hart.csr (hK1 p.hart k), dv (.bool p.hart.halted), dv (.bool p.hart.waiting), dv (.bool p.hart.rung), di p.hart.done, datM p.hart.inp (hK2 p.hart k), datM p.hart.out (hK3 p.hart k)], di k] (ri (hK4 p.hart k)) := by
  obtain ⟨⟨e1, e1'⟩, ⟨e2, e2'⟩, ⟨e3, e3'⟩, ⟨e4, e4'⟩⟩ := hK_le p.hart k hf hk hk2
  refine fn_of lv26 Try.func26 rfl rfl (by kernel_rfl) rfl ?_
  refine .inl ⟨_, _, rfl, c_laws_heldHart p.hart k hf hk hk2, rfl, ?_⟩
  refine bsplit_of_false (decide_eq_false (show ¬ hK4 p.hart k < 0 by omega)) ?_
  exact ⟨⟨rfl, trivial⟩, rfl⟩
theorem readM_few (m : HartM) (hf : m.few) (hs : m.small) (k : Int) : (deviceRead m k).hart.few ∧ (deviceRead m k).hart.small := by
  unfold deviceRead
  split
  · cases h1 : (!inR k 0 7)
    · show (readM m k).few ∧ (readM m k).small
      unfold readM
      obtain ⟨a, b, c, d⟩ := hf
      obtain ⟨a', b', c', d'⟩ := hs
      split
      · exact ⟨⟨a, b, by simp; omega, d⟩, ⟨a', b', by simp; omega, d'⟩⟩
      · exact ⟨⟨a, b, c, d⟩, ⟨a', b', c', d'⟩⟩
    · exact hartZ_few
  · exact hartZ_few
theorem writeM_few (m : HartM) (hf : m.few) (hs : m.small) (k w : Int) : (deviceWrite m k w).hart.few ∧ (deviceWrite m k w).hart.small := by
  unfold deviceWrite
  split
  · cases h1 : (!inR k 0 7)
    · show (writeM m k w).few ∧ (writeM m k w).small
      have st : ∀ j v, (setCsrL m j v).few ∧ (setCsrL m j v).small := fun j v => ⟨⟨hf.regs, by simpa [setCsrL] using hf.csr, hf.inp, hf.out⟩, ⟨hs.regs, by simpa [setCsrL] using hs.csr, hs.inp, hs.out⟩⟩
      unfold writeM setM
      obtain ⟨a, b, c, d⟩ := hf
      obtain ⟨a', b', c', d'⟩ := hs
      (repeat' split) <;> first
        | exact st _ _
        | exact ⟨⟨a, b, c, d⟩, ⟨a', b', c', d'⟩⟩
        | exact ⟨⟨a, b, c, by simp; omega⟩, ⟨a', b', c', by simp; omega⟩⟩
    · exact hartZ_few
  · exact hartZ_few
end Go.Proofs.Ytfcekiehcchebaa.L
