/- What the functions compute that make a new machine: contracts. -/
import Derived.Test.YtfcekiehcchebaaCd
set_option linter.unusedVariables false
set_option linter.unusedSimpArgs false
set_option maxRecDepth 100000
namespace Go.Proofs.Ytfcekiehcchebaa.L
open Go.RowKit
def hartZ : HartM := ⟨[], 0, [], false, false, false, 0, [], []⟩
def newHart (l : List Int) : Int × HartM :=
  bif decide ((l.length : Int) > 40) then (2, hartZ) else bif !(l.all isW) then (3, hartZ) else (0, { hartZ with regs := List.replicate 16 0, csr := List.replicate 11 0, inp := l })
theorem rep_get (n i : Nat) : intsF (List.replicate n 0) i = [.v (.int .i64 0)] := by
  show [D.v (.int .i64 ((List.replicate n (0 : Int)).getD i 0))] = _
  have : (List.replicate n (0 : Int)).getD i 0 = 0 := by
    simp only [List.getD, List.getElem?_replicate]
    split <;> rfl
  rw [this]
theorem c_spec_NewHart (l : List Int) (hl : l.length * 8 ≤ 140737488355328) : FnOK Try.prog 149 [.d (ints l)] (.r (hrR (newHart l))) := by
  refine fn_of lv149 Try.func149 rfl rfl (by kernel_rfl) rfl ?_
  refine bsplit_intro (fun h => ?_) (fun h => ?_)
  · unfold newHart
    rw [h]
    exact ⟨⟨rfl, ⟨rfl, rfl⟩, rfl, ⟨rfl, rfl⟩, rfl, rfl, rfl, rfl, ⟨rfl, rfl⟩, ⟨rfl, rfl⟩, trivial⟩, rfl⟩
  refine .inl ⟨_, _, rfl, c_spec_l8All l (by omega), rfl, ?_⟩
  refine bsplit_intro (fun h2 => ?_) (fun h2 => ?_)
  · unfold newHart
    rw [h, h2]
    exact ⟨⟨rfl, ⟨rfl, rfl⟩, rfl, ⟨rfl, rfl⟩, rfl, rfl, rfl, rfl, ⟨rfl, rfl⟩, ⟨rfl, rfl⟩, trivial⟩, rfl⟩
  refine ask_intro ⟨rfl, by decide, by decide, by decide⟩ ?_
  refine ask_intro ⟨rfl, by decide, by decide, by decide⟩ ?_
  first
    | refine ask_intro ⟨by show (0 + l.length) * 8 ≤ 140737488355328; omega, by omega, fun i hi => rfl⟩ ?_
    | refine .inl ⟨_, _, rfl, c_slices_Clone l hl, rfl, ?_⟩
  refine chk_intro (by kernel_rfl) ?_
  have e : newHart l = (0, { hartZ with regs := List.replicate 16 0, csr := List.replicate 11 0, inp := l }) := by
    unfold newHart
    rw [h, h2]
    rfl
  conv => whnf
  rw [e]
  refine ⟨⟨rfl, ⟨rfl, rfl, rfl, fun i hi => ⟨(rep_get 16 i).symm, rfl⟩⟩, rfl, ⟨rfl, rfl, rfl, fun i hi => ⟨(rep_get 11 i).symm, rfl⟩⟩, rfl, rfl, rfl, rfl, ⟨rfl, rfl, ?_, fun i hi => ⟨rfl, rfl⟩⟩, ⟨rfl, rfl⟩, trivial⟩, rfl⟩
  first
    | rfl
    | exact Nat.zero_add _
end Go.Proofs.Ytfcekiehcchebaa.L
