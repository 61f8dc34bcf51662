/- From what a row lists of package-level variables to what the symbolic logic knows of them. -/
import Derived.Test.YtojaakpnpdnbhaaGreatDoorLa
import Derived.Lib.LaidTab
set_option linter.unusedVariables false
namespace Go.Proofs.YtojaakpnpdnbhaaGreatDoor.L
open Go.RowKit
theorem tab_of_laid {P : Program} {W : World} {name : String} {k : IntKind} {zs : List Int} {g : Nat} {t e : TypeId} {n : Nat}
    (hg : P.globalNamed name = some g) (hty : (P.globals[g]?).map (·.type) = some t) (ht : P.underlying t = some (.array n e)) (he : P.underlying e = some (.int k)) (hce : P.cellsOf e = 1) (hct : P.cellsOf t = n) :
    ∀ {l : List (String × DataW Unit)} {ps : List MemPlace}, DataW.LaidVars P W l ps → (name, Lib.tabData k zs) ∈ l → Lib.TabIs P W name k zs
  | [], ps, _, hm => by cases hm
  | (n', d) :: r, ps, h, hm => by
    obtain ⟨g', t', cs, fuel, p, q, hg', ht', hvar, hd, hr, _⟩ := h
    rcases List.mem_cons.1 hm with e1 | e1
    · cases e1
      obtain rfl := Option.some.inj (hg.symm.trans hg')
      obtain rfl := Option.some.inj (hty.symm.trans ht')
      unfold Lib.TabIs
      rw [hvar, ← Lib.cells_of_tab ht he hce hct hd]
    · exact tab_of_laid hg hty ht he hce hct hr e1
theorem cell_lt {w : World} {a : Addr} {v : Value} (h : w.cell? a = some v) : a.block < w.heap.size := by
  rcases Nat.lt_or_ge a.block w.heap.size with h1 | h1
  · exact h1
  · rw [World.cell?, Array.getElem?_eq_none h1] at h
    simp at h
theorem gl_tab {P : Program} {W : World} {name : String} {k : IntKind} {zs : List Int} {g : Nat} (h : Lib.TabIs P W name k zs) (hg : P.globalNamed name = some g) (h0 : 0 < zs.length) : g < W.heap.size ∧ ∃ t fr, W.heap[g]? = some (.cells (zs.map (Value.int k)).toArray t fr) := by
  refine ⟨cell_lt (a := ⟨g, 0, none⟩) (h.cell hg 0 h0), ?_⟩
  unfold Lib.TabIs at h
  simp only [World.var?, hg, Option.bind_some] at h
  split at h
  · rename_i cs t fr hh
    exact ⟨t, fr, by rw [hh, Option.some.inj h]⟩
  · cases h
/-- what is known of a package-level variable, as the kit's contracts ask for it -/
theorem tab_of_gl {P : Program} {W : World} {F : Nat → Prop} (h : GlOK F W) {name : String} {k : IntKind} {zs : List Int} {g : Nat} (hg : P.globalNamed name = some g) (hm : (g, k, zs) ∈ gtab) : Lib.TabIs P W name k zs := by
  obtain ⟨_, t, fr, hh⟩ := h.1 g k zs hm
  unfold Lib.TabIs
  simp only [World.var?, hg, Option.bind_some, hh]
end Go.Proofs.YtojaakpnpdnbhaaGreatDoor.L
