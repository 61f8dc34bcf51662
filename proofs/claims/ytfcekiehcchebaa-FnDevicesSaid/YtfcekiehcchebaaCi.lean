/- What the functions compute that turn a machine that is pointed at: contracts. -/
import Derived.Test.YtfcekiehcchebaaCh
set_option linter.unusedVariables false
set_option linter.unusedSimpArgs false
set_option maxRecDepth 100000
namespace Go.Proofs.Ytfcekiehcchebaa.L
open Go.RowKit
/-- a store into a row of whole numbers, at one place -/
theorem set_at {l : List Int} {i j : Nat} {v : Int} {x : List D} (h : x = intsF l j) (hi : i < l.length) : (if j = i then splice x 0 [D.v (.int .i64 v)] else x) = intsF (l.set i v) j := by
  rw [h]; exact set_row l i v hi j
def trapM (m : HartM) (c t : Int) : HartM := { m with pc := m.csr.getD 1 0, csr := (((m.csr.set 2 m.pc).set 3 c).set 4 t).set 0 (IntKind.i64.wrap (Int.tmod (m.csr.getD 0 0) 2 * 2)), waiting := false }
def trapHart (m : HartM) (c t : Int) : Int × HartM := if hFault m = 0 then (bif !inR c 0 31 || !isW t then (3, hartZ) else (0, trapM m c t)) else (hFault m, hartZ)
theorem upto_ints (a b : List Int) (i : Nat) : upto a.length (intsF a) (intsF b) i = intsF (a ++ b) i := by
  unfold upto
  show _ = [D.v (.int .i64 ((a ++ b).getD i 0))]
  split
  · rename_i h; show [D.v (.int .i64 (a.getD i 0))] = _; simp [List.getD, List.getElem?_append, h]
  · rename_i h; show [D.v (.int .i64 (b.getD (i - a.length) 0))] = _; simp [List.getD, List.getElem?_append, h]
def feedHart (m : HartM) (l : List Int) : Int × HartM :=
  if hFault m = 0 then (bif !l.all isW then (3, hartZ) else bif decide ((m.inp.length : Int) + l.length > 40) then (2, hartZ) else (0, { m with inp := m.inp ++ l })) else (hFault m, hartZ)
theorem c_spec_FeedHart (m : HartM) (hs : m.small) (l : List Int) (hl : l.length ≤ 1048576) : FnOK Try.prog 32 [hartLV m, .d (ints l)] (.r (hrR (feedHart m l))) := by
  refine fn_of lv32 Try.func32 rfl rfl (by kernel_rfl) rfl ?_
  refine .inl ⟨_, _, rfl, c_spec_l8Fault m hs, rfl, ?_⟩
  refine bsplit_intro (fun h => ?_) (fun h => ?_)
  · have e : feedHart m l = (hFault m, hartZ) := if_neg (by simpa using h)
    conv => whnf
    rw [e]
    exact ⟨⟨rfl, ⟨rfl, rfl⟩, rfl, ⟨rfl, rfl⟩, rfl, rfl, rfl, rfl, ⟨rfl, rfl⟩, ⟨rfl, rfl⟩, trivial⟩, rfl⟩
  have h0 := fault_ne h
  refine .inl ⟨_, _, rfl, c_spec_l8All l (by omega), rfl, ?_⟩
  refine bsplit_intro (fun h1 => ?_) (fun h1 => ?_)
  · have e : feedHart m l = (3, hartZ) := by unfold feedHart; rw [if_pos h0, h1]; rfl
    conv => whnf
    rw [e]
    exact ⟨⟨rfl, ⟨rfl, rfl⟩, rfl, ⟨rfl, rfl⟩, rfl, rfl, rfl, rfl, ⟨rfl, rfl⟩, ⟨rfl, rfl⟩, trivial⟩, rfl⟩
  have hz := hFault_zero h0
  try refine chk_intro (by kernel_rfl) ?_
  have hw : IntKind.i64.wrap ((m.inp.length : Int) + l.length) = (m.inp.length : Int) + l.length := wrap_i64 _ (by omega) (by omega)
  refine bsplit_intro (fun h2 => ?_) (fun h2 => ?_)
  · rw [hw] at h2
    have e : feedHart m l = (2, hartZ) := by unfold feedHart; rw [if_pos h0, h1, h2]; rfl
    conv => whnf
    rw [e]
    exact ⟨⟨rfl, ⟨rfl, rfl⟩, rfl, ⟨rfl, rfl⟩, rfl, rfl, rfl, rfl, ⟨rfl, rfl⟩, ⟨rfl, rfl⟩, trivial⟩, rfl⟩
  rw [hw] at h2
  have e : feedHart m l = (0, { m with inp := m.inp ++ l }) := by unfold feedHart; rw [if_pos h0, h1, h2]; rfl
  refine .inl ⟨_, _, rfl, c_spec_l8Copy m hs, rfl, ?_⟩
  refine ask_intro ⟨by show (m.inp.length + l.length) * 8 ≤ 140737488355328; omega, by omega, fun i hi => rfl⟩ ?_
  try refine chk_intro (by kernel_rfl) ?_
  conv => whnf
  rw [e]
  refine ⟨⟨rfl, ⟨rfl, rfl, rfl, fun i hi => ⟨rfl, rfl⟩⟩, rfl, ⟨rfl, rfl, rfl, fun i hi => ⟨rfl, rfl⟩⟩, rfl, rfl, rfl, rfl, ⟨rfl, rfl, ?_, fun i hi => ⟨?_, rfl⟩⟩, ⟨rfl, rfl, rfl, fun i hi => ⟨rfl, rfl⟩⟩, trivial⟩, rfl⟩
  · show m.inp.length + l.length = (m.inp ++ l).length
    simp
  · exact upto_ints _ _ _
theorem c_impl_FeedHart (m : HartM) (hs : m.small) (l : List Int) (hl : l.length ≤ 1048576) : FnOK Try.prog 31 [hartLV m, .d (ints l)] (.r (hrR (feedHart m l))) := by
  refine fn_of lv31 Try.func31 rfl rfl (by kernel_rfl) rfl ?_
  refine .inl ⟨_, _, rfl, c_impl_HartFault m hs, rfl, ?_⟩
  refine bsplit_intro (fun h => ?_) (fun h => ?_)
  · have e : feedHart m l = (hFault m, hartZ) := if_neg (by simpa using h)
    conv => whnf
    rw [e]
    exact ⟨⟨rfl, ⟨rfl, rfl⟩, rfl, ⟨rfl, rfl⟩, rfl, rfl, rfl, rfl, ⟨rfl, rfl⟩, ⟨rfl, rfl⟩, trivial⟩, rfl⟩
  have h0 := fault_ne h
  refine .inl ⟨_, _, rfl, c_impl_areWords l (by omega), rfl, ?_⟩
  refine bsplit_intro (fun h1 => ?_) (fun h1 => ?_)
  · have e : feedHart m l = (3, hartZ) := by unfold feedHart; rw [if_pos h0, h1]; rfl
    conv => whnf
    rw [e]
    exact ⟨⟨rfl, ⟨rfl, rfl⟩, rfl, ⟨rfl, rfl⟩, rfl, rfl, rfl, rfl, ⟨rfl, rfl⟩, ⟨rfl, rfl⟩, trivial⟩, rfl⟩
  have hz := hFault_zero h0
  try refine chk_intro (by kernel_rfl) ?_
  have hw : IntKind.i64.wrap ((m.inp.length : Int) + l.length) = (m.inp.length : Int) + l.length := wrap_i64 _ (by omega) (by omega)
  refine bsplit_intro (fun h2 => ?_) (fun h2 => ?_)
  · rw [hw] at h2
    have e : feedHart m l = (2, hartZ) := by unfold feedHart; rw [if_pos h0, h1, h2]; rfl
    conv => whnf
    rw [e]
    exact ⟨⟨rfl, ⟨rfl, rfl⟩, rfl, ⟨rfl, rfl⟩, rfl, rfl, rfl, rfl, ⟨rfl, rfl⟩, ⟨rfl, rfl⟩, trivial⟩, rfl⟩
  rw [hw] at h2
  have e : feedHart m l = (0, { m with inp := m.inp ++ l }) := by unfold feedHart; rw [if_pos h0, h1, h2]; rfl
  refine .inl ⟨_, _, rfl, c_impl_Hart_own m hs, rfl, ?_⟩
  refine ask_intro ⟨by show (m.inp.length + l.length) * 8 ≤ 140737488355328; omega, by omega, fun i hi => rfl⟩ ?_
  try refine chk_intro (by kernel_rfl) ?_
  conv => whnf
  rw [e]
  refine ⟨⟨rfl, ⟨rfl, rfl, rfl, fun i hi => ⟨rfl, rfl⟩⟩, rfl, ⟨rfl, rfl, rfl, fun i hi => ⟨rfl, rfl⟩⟩, rfl, rfl, rfl, rfl, ⟨rfl, rfl, ?_, fun i hi => ⟨?_, rfl⟩⟩, ⟨rfl, rfl, rfl, fun i hi => ⟨rfl, rfl⟩⟩, trivial⟩, rfl⟩
  · show m.inp.length + l.length = (m.inp ++ l).length
    simp
  · exact upto_ints _ _ _
end Go.Proofs.Ytfcekiehcchebaa.L
