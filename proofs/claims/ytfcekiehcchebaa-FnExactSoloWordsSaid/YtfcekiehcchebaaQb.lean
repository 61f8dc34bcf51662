/- The law function over what is wrong with a lonely machine answers true; how one is read. -/
import Derived.Test.YtfcekiehcchebaaQa
set_option linter.unusedVariables false
set_option linter.unusedSimpArgs false
set_option maxRecDepth 100000
namespace Go.Proofs.Ytfcekiehcchebaa.L
open Go.RowKit Go.ChangeShapes Go.WideShapes Go.ChangeAt
theorem reads_page : ReadsT Try.prog 131 2 PageM pageD (fun p => ok64 p.to ∧ ok64 p.kinds) :=
  (ReadsT.struct (ok := _) Try.underlying131 (by kernel_rfl) (ReadsL.cons reads_int64 (.cons reads_int64 (.nil 2)))).map (fun m => ⟨m.1, m.2.1⟩) (fun m h => ⟨⟨h.1, h.2.1⟩, rfl⟩)
theorem reads_pages : ReadsT Try.prog 25 1 (List PageM) (fun l => [pages l]) (fun l => l.length * 16 ≤ reachBytes ∧ ∀ x ∈ l, ok64 x.to ∧ ok64 x.kinds) := ReadsT.slice reads_page Try.underlying25 (by kernel_rfl) (by decide) ⟨0, 0⟩ (by kernel_rfl)
structure SoloM.ok (x : SoloM) : Prop where
  hart : x.hart.ok
  pages : x.pages.length * 16 ≤ reachBytes ∧ ∀ p ∈ x.pages, ok64 p.to ∧ ok64 p.kinds
  mem : okInts x.mem
theorem SoloM.ok.small {x : SoloM} (h : x.ok) : x.small := by
  have e := reach_eq
  have a := h.pages.1
  have b := h.mem.1
  exact ⟨h.hart.small, by omega, by omega⟩
theorem reads_Solo : ReadsT Try.prog 27 11 SoloM soloD SoloM.ok :=
  (ReadsT.struct (ok := _) Try.underlying27 (by kernel_rfl) (ReadsL.cons reads_Hart (.cons reads_pages (.cons reads_ints (.nil 11))))).map (fun m => ⟨m.1, m.2.1, m.2.2.1⟩) (fun m h => ⟨⟨h.1, h.2.1, h.2.2.1⟩, rfl⟩)
set_option maxHeartbeats 1600000 in
theorem c_laws_FnExactSoloFault (x : SoloM) (ho : x.ok) : FnOK Try.prog 3 [soloLV x] (rb true) := by
  have hs := ho.small
  obtain ⟨v, hv, cv⟩ := szSoloE x hs
  by_cases hneg : v < 0
  · refine fn_of lv3 Try.func3 rfl rfl (by kernel_rfl) rfl ?_
    refine .inl ⟨_, _, rfl, cv, rfl, ?_⟩
    refine bsplit_of_true (decide_eq_true hneg) ?_
    exact ⟨⟨rfl, trivial⟩, rfl⟩
  obtain ⟨hf, hp, hm⟩ := hv hneg
  have ct := c_laws_toSolo x hs
  have cs := c_spec_SoloFault x hs hp hm
  have ci := c_impl_SoloFault x hs hp hm
  have ce := c_laws_eqSolo x x hs
  refine fn_of lv3 Try.func3 rfl rfl (by kernel_rfl) rfl ?_
  refine .inl ⟨_, _, rfl, cv, rfl, ?_⟩
  refine bsplit_of_false (decide_eq_false hneg) ?_
  refine .inl ⟨_, _, rfl, ct, rfl, ?_⟩
  refine .inl ⟨_, _, rfl, cs, rfl, ?_⟩
  refine .inl ⟨_, _, rfl, ct, rfl, ?_⟩
  refine .inl ⟨_, _, rfl, ci, rfl, ?_⟩
  refine bsplit_of_false (by simp) ?_
  refine .inl ⟨_, _, rfl, ct, rfl, ?_⟩
  refine .inl ⟨_, _, rfl, ce, rfl, ?_⟩
  repeat' (first | refine bsplit_true ?_ | refine bsplit_false ?_ | refine chk_intro (by kernel_rfl) ?_ | refine bsplit_of_false (by simp; done) ?_)
  exact ⟨⟨rfl, trivial⟩, rfl⟩
end Go.Proofs.Ytfcekiehcchebaa.L
