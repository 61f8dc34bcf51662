/- What the law functions compute that mark a lonely machine: contracts. -/
import Derived.Test.YtfcekiehcchebaaQg
set_option linter.unusedVariables false
set_option linter.unusedSimpArgs false
set_option maxRecDepth 100000
namespace Go.Proofs.Ytfcekiehcchebaa.L
open Go.RowKit
abbrev soloRows (x : SoloM) : List (Nat × Ent) := [(0, rowE x.hart.regs), (1, rowE x.hart.csr), (2, rowE x.hart.inp), (3, rowE x.hart.out), (4, rowP x.pages), (5, rowE x.mem)]
abbrev sK4 (x : SoloM) (k : Int) : Int := hK4 x.hart k
abbrev sK5 (x : SoloM) (k : Int) : Int := sK4 x k + 2 * x.pages.length
abbrev sK6 (x : SoloM) (k : Int) : Int := sK5 x k + x.mem.length
abbrev soloMarks (x : SoloM) (k : Int) : List (Nat × Ent) := [(0, rowM x.hart.regs k), (1, rowM x.hart.csr (hK1 x.hart k)), (2, rowM x.hart.inp (hK2 x.hart k)), (3, rowM x.hart.out (hK3 x.hart k)), (4, .row 129 2 x.pages.length (pageMk (sK4 x k))), (5, rowM x.mem (sK5 x k))]
theorem c_laws_markSolo (x : SoloM) (k : Int) (hf : x.hart.few) (hp : x.pages.length ≤ 1048576) (hm : x.mem.length ≤ 1048576) (hk : 0 ≤ k) (hk2 : k ≤ 1048576) :
    MutOK Try.prog 40 [.agg (hartK x.hart 0 1 2 3 ++ [.row 4, .row 5]), di k] 6 (soloRows x) (di (sK6 x k)) 6 (soloMarks x k) := by
  obtain ⟨⟨e1, e1'⟩, ⟨e2, e2'⟩, ⟨e3, e3'⟩, ⟨e4, e4'⟩⟩ := hK_le x.hart k hf hk hk2
  have b5 : 0 ≤ sK5 x k ∧ sK5 x k ≤ 1099511627776 := by
    have := hf.regs; have := hf.csr; have := hf.inp; have := hf.out
    show 0 ≤ hK4 x.hart k + 2 * (x.pages.length : Int) ∧ hK4 x.hart k + 2 * (x.pages.length : Int) ≤ _
    unfold hK4 hK3 hK2 hK1
    omega
  refine mut_fn_of lv40 Try.func40 rfl rfl (by kernel_rfl) rfl [] ?_
  refine .inr ⟨rfl, use_mut ⟨_, _, _, _, _, _, rfl, rfl, c_laws_markHart x.hart k hf hk hk2, rfl, ?_⟩⟩
  refine .inr ⟨rfl, use_mut ⟨_, _, _, _, _, _, rfl, rfl, c_laws_markPageS x.pages (sK4 x k) (by omega) e4 e4', rfl, ?_⟩⟩
  refine .inr ⟨rfl, use_mut ⟨_, _, _, _, _, _, rfl, rfl, c_laws_markInt64S x.mem (sK5 x k) (by omega) b5.1 b5.2, rfl, ?_⟩⟩
  exact chk_intro (by kernel_rfl) ⟨tellV_v rfl rfl, tellHp_row rfl rfl rfl (fun j hj => rfl) (tellHp_row rfl rfl rfl (fun j hj => rfl) (tellHp_row rfl rfl rfl (fun j hj => rfl) (tellHp_row rfl rfl rfl (fun j hj => rfl) (tellHp_row rfl rfl rfl (fun j hj => rfl) (tellHp_row rfl rfl rfl (fun j hj => rfl) tellHp_nil)))))⟩
end Go.Proofs.Ytfcekiehcchebaa.L
