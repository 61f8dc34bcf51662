/-
  No cell of these rows narrows 'for every input' (looked for: loops, veiled, ifaces, maps, wideKeys, modest, calm, conditions, laid).
  DERIVED. THE GIVEN ROWS OF THIS SEAT. 10 by the template 'for every input the law returns true; each argument reads behind the call as it read before'; 0 by the template 'total and deterministic' (their statements: YtcllbnancmogfaaTotals.lean).
  GIVEN WITH THE SEED: the statements are not yours to turn. If you find one false, say at which input.
  Laid BY PROGRAM, IN A SANDBOX (cutbox-rows.mjs): the forced cells as the released guide's own fill.sh prints them over the translation c7eae430c7ae0379… (all of the seat's roots in one cut). By AI agents, Wed Nov 11 2026. No macro, syntax, notation, axiom, sorry.
-/
import Derived.Test.YtcllbnancmogfaaChecked
import GoSem.Claim
import GoSem.ClaimJoined
import GoSem.ClaimMapViews
import Derived.JoinedTies
import Derived.KernelRfl
namespace Go.Proofs.Ytcllbnancmogfaa
/- THE CELL 'sum', in the pinned program and in every row, IS THE sha256 OF THE DUMP (.gsa) THAT YtcllbnancmogfaaProg.lean LOADS. Nothing in Lean hashes anything: it is a label: what it is worth is what the hold of that sum in a sandbox is worth. -/
noncomputable def Try.pinned : Pinned := { name := "ytcllbnancmogfaa", sum := "c7eae430c7ae03791fe5cd75f81acfad5df4e2ee7e776af330d6748fb60064c8", checked := Try.checked }
namespace Rows
def none {H : Type} : Left H := { results := [], args := [] }

/-- 'laws.FnExactHartFault': WHATEVER THE INPUT: true; the input reads as it did. -/
def fnExactHartFaultSpec : ChangeSpec := { name := "fnExactHartFault", fn := fun _ => fun
  | [d] => { results := [.lit (.bool true)], args := [d] }
  | _ => none }
def fnExactHartFaultRow : OpenClaim := { program := "ytcllbnancmogfaa", sum := "c7eae430c7ae03791fe5cd75f81acfad5df4e2ee7e776af330d6748fb60064c8", func := "loop.example/g00213/laws.FnExactHartFault", spec := "fnExactHartFault", unfollowed := true, recurses := true, apart := false }
def FnExactHartFaultSaid : Prop := fnExactHartFaultRow.holds Try.pinned (OpenSpec.ofChange fnExactHartFaultSpec)

/-- ITS FALSE NEIGHBOUR: 'it returns false'. Refute it at one input. -/
def fnExactHartFaultWrong : ChangeSpec := { name := "fnExactHartFault", fn := fun _ => fun
  | [d] => { results := [.lit (.bool false)], args := [d] }
  | _ => none }
def FnExactHartFaultWrongFalsely : Prop := fnExactHartFaultRow.holds Try.pinned (OpenSpec.ofChange fnExactHartFaultWrong)

/-- 'laws.FnExactNewHart': WHATEVER THE INPUT: true; the input reads as it did. -/
def fnExactNewHartSpec : ChangeSpec := { name := "fnExactNewHart", fn := fun _ => fun
  | [d] => { results := [.lit (.bool true)], args := [d] }
  | _ => none }
def fnExactNewHartRow : OpenClaim := { program := "ytcllbnancmogfaa", sum := "c7eae430c7ae03791fe5cd75f81acfad5df4e2ee7e776af330d6748fb60064c8", func := "loop.example/g00213/laws.FnExactNewHart", spec := "fnExactNewHart", unfollowed := true, recurses := true, apart := false }
def FnExactNewHartSaid : Prop := fnExactNewHartRow.holds Try.pinned (OpenSpec.ofChange fnExactNewHartSpec)

/-- ITS FALSE NEIGHBOUR: 'it returns false'. Refute it at one input. -/
def fnExactNewHartWrong : ChangeSpec := { name := "fnExactNewHart", fn := fun _ => fun
  | [d] => { results := [.lit (.bool false)], args := [d] }
  | _ => none }
def FnExactNewHartWrongFalsely : Prop := fnExactNewHartRow.holds Try.pinned (OpenSpec.ofChange fnExactNewHartWrong)

/-- 'laws.FnExactPendingOf': WHATEVER THE INPUT: true; the input reads as it did. -/
def fnExactPendingOfSpec : ChangeSpec := { name := "fnExactPendingOf", fn := fun _ => fun
  | [d] => { results := [.lit (.bool true)], args := [d] }
  | _ => none }
def fnExactPendingOfRow : OpenClaim := { program := "ytcllbnancmogfaa", sum := "c7eae430c7ae03791fe5cd75f81acfad5df4e2ee7e776af330d6748fb60064c8", func := "loop.example/g00213/laws.FnExactPendingOf", spec := "fnExactPendingOf", unfollowed := true, recurses := true, apart := false }
def FnExactPendingOfSaid : Prop := fnExactPendingOfRow.holds Try.pinned (OpenSpec.ofChange fnExactPendingOfSpec)

/-- ITS FALSE NEIGHBOUR: 'it returns false'. Refute it at one input. -/
def fnExactPendingOfWrong : ChangeSpec := { name := "fnExactPendingOf", fn := fun _ => fun
  | [d] => { results := [.lit (.bool false)], args := [d] }
  | _ => none }
def FnExactPendingOfWrongFalsely : Prop := fnExactPendingOfRow.holds Try.pinned (OpenSpec.ofChange fnExactPendingOfWrong)

/-- 'laws.FnExactGetCsr': WHATEVER THE INPUT: true; the input reads as it did. -/
def fnExactGetCsrSpec : ChangeSpec := { name := "fnExactGetCsr", fn := fun _ => fun
  | [d1, d2] => { results := [.lit (.bool true)], args := [d1, d2] }
  | _ => none }
def fnExactGetCsrRow : OpenClaim := { program := "ytcllbnancmogfaa", sum := "c7eae430c7ae03791fe5cd75f81acfad5df4e2ee7e776af330d6748fb60064c8", func := "loop.example/g00213/laws.FnExactGetCsr", spec := "fnExactGetCsr", unfollowed := true, recurses := true, apart := false }
def FnExactGetCsrSaid : Prop := fnExactGetCsrRow.holds Try.pinned (OpenSpec.ofChange fnExactGetCsrSpec)

/-- ITS FALSE NEIGHBOUR: 'it returns false'. Refute it at one input. -/
def fnExactGetCsrWrong : ChangeSpec := { name := "fnExactGetCsr", fn := fun _ => fun
  | [d1, d2] => { results := [.lit (.bool false)], args := [d1, d2] }
  | _ => none }
def FnExactGetCsrWrongFalsely : Prop := fnExactGetCsrRow.holds Try.pinned (OpenSpec.ofChange fnExactGetCsrWrong)

/-- 'laws.FnExactRingHart': WHATEVER THE INPUT: true; the input reads as it did. -/
def fnExactRingHartSpec : ChangeSpec := { name := "fnExactRingHart", fn := fun _ => fun
  | [d] => { results := [.lit (.bool true)], args := [d] }
  | _ => none }
def fnExactRingHartRow : OpenClaim := { program := "ytcllbnancmogfaa", sum := "c7eae430c7ae03791fe5cd75f81acfad5df4e2ee7e776af330d6748fb60064c8", func := "loop.example/g00213/laws.FnExactRingHart", spec := "fnExactRingHart", unfollowed := true, recurses := true, apart := false }
def FnExactRingHartSaid : Prop := fnExactRingHartRow.holds Try.pinned (OpenSpec.ofChange fnExactRingHartSpec)

/-- ITS FALSE NEIGHBOUR: 'it returns false'. Refute it at one input. -/
def fnExactRingHartWrong : ChangeSpec := { name := "fnExactRingHart", fn := fun _ => fun
  | [d] => { results := [.lit (.bool false)], args := [d] }
  | _ => none }
def FnExactRingHartWrongFalsely : Prop := fnExactRingHartRow.holds Try.pinned (OpenSpec.ofChange fnExactRingHartWrong)

/-- 'laws.FnExactBackHart': WHATEVER THE INPUT: true; the input reads as it did. -/
def fnExactBackHartSpec : ChangeSpec := { name := "fnExactBackHart", fn := fun _ => fun
  | [d] => { results := [.lit (.bool true)], args := [d] }
  | _ => none }
def fnExactBackHartRow : OpenClaim := { program := "ytcllbnancmogfaa", sum := "c7eae430c7ae03791fe5cd75f81acfad5df4e2ee7e776af330d6748fb60064c8", func := "loop.example/g00213/laws.FnExactBackHart", spec := "fnExactBackHart", unfollowed := true, recurses := true, apart := false }
def FnExactBackHartSaid : Prop := fnExactBackHartRow.holds Try.pinned (OpenSpec.ofChange fnExactBackHartSpec)

/-- ITS FALSE NEIGHBOUR: 'it returns false'. Refute it at one input. -/
def fnExactBackHartWrong : ChangeSpec := { name := "fnExactBackHart", fn := fun _ => fun
  | [d] => { results := [.lit (.bool false)], args := [d] }
  | _ => none }
def FnExactBackHartWrongFalsely : Prop := fnExactBackHartRow.holds Try.pinned (OpenSpec.ofChange fnExactBackHartWrong)

/-- 'laws.FnExactFeedHart': WHATEVER THE INPUT: true; the input reads as it did. -/
def fnExactFeedHartSpec : ChangeSpec := { name := "fnExactFeedHart", fn := fun _ => fun
  | [d1, d2] => { results := [.lit (.bool true)], args := [d1, d2] }
  | _ => none }
def fnExactFeedHartRow : OpenClaim := { program := "ytcllbnancmogfaa", sum := "c7eae430c7ae03791fe5cd75f81acfad5df4e2ee7e776af330d6748fb60064c8", func := "loop.example/g00213/laws.FnExactFeedHart", spec := "fnExactFeedHart", unfollowed := true, recurses := true, apart := false }
def FnExactFeedHartSaid : Prop := fnExactFeedHartRow.holds Try.pinned (OpenSpec.ofChange fnExactFeedHartSpec)

/-- ITS FALSE NEIGHBOUR: 'it returns false'. Refute it at one input. -/
def fnExactFeedHartWrong : ChangeSpec := { name := "fnExactFeedHart", fn := fun _ => fun
  | [d1, d2] => { results := [.lit (.bool false)], args := [d1, d2] }
  | _ => none }
def FnExactFeedHartWrongFalsely : Prop := fnExactFeedHartRow.holds Try.pinned (OpenSpec.ofChange fnExactFeedHartWrong)

/-- 'laws.FnExactTrapHart': WHATEVER THE INPUT: true; the input reads as it did. -/
def fnExactTrapHartSpec : ChangeSpec := { name := "fnExactTrapHart", fn := fun _ => fun
  | [d1, d2, d3] => { results := [.lit (.bool true)], args := [d1, d2, d3] }
  | _ => none }
def fnExactTrapHartRow : OpenClaim := { program := "ytcllbnancmogfaa", sum := "c7eae430c7ae03791fe5cd75f81acfad5df4e2ee7e776af330d6748fb60064c8", func := "loop.example/g00213/laws.FnExactTrapHart", spec := "fnExactTrapHart", unfollowed := true, recurses := true, apart := false }
def FnExactTrapHartSaid : Prop := fnExactTrapHartRow.holds Try.pinned (OpenSpec.ofChange fnExactTrapHartSpec)

/-- ITS FALSE NEIGHBOUR: 'it returns false'. Refute it at one input. -/
def fnExactTrapHartWrong : ChangeSpec := { name := "fnExactTrapHart", fn := fun _ => fun
  | [d1, d2, d3] => { results := [.lit (.bool false)], args := [d1, d2, d3] }
  | _ => none }
def FnExactTrapHartWrongFalsely : Prop := fnExactTrapHartRow.holds Try.pinned (OpenSpec.ofChange fnExactTrapHartWrong)

/-- 'laws.FnExactSetCsr': WHATEVER THE INPUT: true; the input reads as it did. -/
def fnExactSetCsrSpec : ChangeSpec := { name := "fnExactSetCsr", fn := fun _ => fun
  | [d1, d2, d3] => { results := [.lit (.bool true)], args := [d1, d2, d3] }
  | _ => none }
def fnExactSetCsrRow : OpenClaim := { program := "ytcllbnancmogfaa", sum := "c7eae430c7ae03791fe5cd75f81acfad5df4e2ee7e776af330d6748fb60064c8", func := "loop.example/g00213/laws.FnExactSetCsr", spec := "fnExactSetCsr", unfollowed := true, recurses := true, apart := false }
def FnExactSetCsrSaid : Prop := fnExactSetCsrRow.holds Try.pinned (OpenSpec.ofChange fnExactSetCsrSpec)

/-- ITS FALSE NEIGHBOUR: 'it returns false'. Refute it at one input. -/
def fnExactSetCsrWrong : ChangeSpec := { name := "fnExactSetCsr", fn := fun _ => fun
  | [d1, d2, d3] => { results := [.lit (.bool false)], args := [d1, d2, d3] }
  | _ => none }
def FnExactSetCsrWrongFalsely : Prop := fnExactSetCsrRow.holds Try.pinned (OpenSpec.ofChange fnExactSetCsrWrong)

/-- 'laws.FnCsrs': WHATEVER THE INPUT: true; the input reads as it did. -/
def fnCsrsSpec : ChangeSpec := { name := "fnCsrs", fn := fun _ => fun
  | [d] => { results := [.lit (.bool true)], args := [d] }
  | _ => none }
def fnCsrsRow : OpenClaim := { program := "ytcllbnancmogfaa", sum := "c7eae430c7ae03791fe5cd75f81acfad5df4e2ee7e776af330d6748fb60064c8", func := "loop.example/g00213/laws.FnCsrs", spec := "fnCsrs", unfollowed := true, recurses := true, apart := false }
def FnCsrsSaid : Prop := fnCsrsRow.holds Try.pinned (OpenSpec.ofChange fnCsrsSpec)

/-- ITS FALSE NEIGHBOUR: 'it returns false'. Refute it at one input. -/
def fnCsrsWrong : ChangeSpec := { name := "fnCsrs", fn := fun _ => fun
  | [d] => { results := [.lit (.bool false)], args := [d] }
  | _ => none }
def FnCsrsWrongFalsely : Prop := fnCsrsRow.holds Try.pinned (OpenSpec.ofChange fnCsrsWrong)

/- THE SECOND FORM. 'bulk': how many values and letters a reading holds, each counted each time it is reached (what is shared counts as often as it is met; a slice's spare places count too). A statement '..UptoSaid' is the law's where the arguments, and the package variables that the reading takes, are together of bulk at most 1048576: NARROWER than '..Said'. Prove '..Said' where nothing that the law and all that it calls make is longer than what came in: it says more and counts as full. Else prove '..UptoSaid'. A law counts once. -/
mutual
def uptoBulk {H : Type} : DataW H → Nat
  | .lit (.string bytes) => bytes.length + 1
  | .lit _ => 1
  | .nil => 1
  | .ptr d => uptoBulk d + 1
  | .slice elems spare => uptoBulkAll elems + uptoBulkAll spare + 1
  | .agg parts => uptoBulkAll parts + 1
  | .iface _ d => uptoBulk d + 1
  | .map entries => uptoBulkEntries entries + 1
  | .held _ => 1
def uptoBulkAll {H : Type} : List (DataW H) → Nat
  | [] => 0
  | d :: r => uptoBulk d + uptoBulkAll r
def uptoBulkEntries {H : Type} : List (Lit × DataW H) → Nat
  | [] => 0
  | x :: r => uptoBulkEntry x + uptoBulkEntries r
def uptoBulkEntry {H : Type} : Lit × DataW H → Nat
  | (.string bytes, d) => bytes.length + uptoBulk d + 1
  | (_, d) => uptoBulk d + 1
 end
def uptoSmall : (H : Type) → List (DataW H) → Bool := fun _ ds => decide (uptoBulkAll ds ≤ 1048576)
def OpenSpec.upto (s : _root_.Go.ChangeSpec) : _root_.Go.OpenSpec := { _root_.Go.OpenSpec.ofChange s with cond := some uptoSmall }

/-- 'laws.FnExactHartFault', WHERE WHAT IT READS IS OF BULK AT MOST 1048576: true; the input reads as it did. -/
def fnExactHartFaultUptoRow : OpenClaim := { program := "ytcllbnancmogfaa", sum := "c7eae430c7ae03791fe5cd75f81acfad5df4e2ee7e776af330d6748fb60064c8", func := "loop.example/g00213/laws.FnExactHartFault", spec := "fnExactHartFault", unfollowed := true, recurses := true, apart := false, narrowed := true }
def FnExactHartFaultUptoSaid : Prop := fnExactHartFaultUptoRow.holds Try.pinned (OpenSpec.upto fnExactHartFaultSpec)

/-- 'laws.FnExactNewHart', WHERE WHAT IT READS IS OF BULK AT MOST 1048576: true; the input reads as it did. -/
def fnExactNewHartUptoRow : OpenClaim := { program := "ytcllbnancmogfaa", sum := "c7eae430c7ae03791fe5cd75f81acfad5df4e2ee7e776af330d6748fb60064c8", func := "loop.example/g00213/laws.FnExactNewHart", spec := "fnExactNewHart", unfollowed := true, recurses := true, apart := false, narrowed := true }
def FnExactNewHartUptoSaid : Prop := fnExactNewHartUptoRow.holds Try.pinned (OpenSpec.upto fnExactNewHartSpec)

/-- 'laws.FnExactPendingOf', WHERE WHAT IT READS IS OF BULK AT MOST 1048576: true; the input reads as it did. -/
def fnExactPendingOfUptoRow : OpenClaim := { program := "ytcllbnancmogfaa", sum := "c7eae430c7ae03791fe5cd75f81acfad5df4e2ee7e776af330d6748fb60064c8", func := "loop.example/g00213/laws.FnExactPendingOf", spec := "fnExactPendingOf", unfollowed := true, recurses := true, apart := false, narrowed := true }
def FnExactPendingOfUptoSaid : Prop := fnExactPendingOfUptoRow.holds Try.pinned (OpenSpec.upto fnExactPendingOfSpec)

/-- 'laws.FnExactGetCsr', WHERE WHAT IT READS IS OF BULK AT MOST 1048576: true; the input reads as it did. -/
def fnExactGetCsrUptoRow : OpenClaim := { program := "ytcllbnancmogfaa", sum := "c7eae430c7ae03791fe5cd75f81acfad5df4e2ee7e776af330d6748fb60064c8", func := "loop.example/g00213/laws.FnExactGetCsr", spec := "fnExactGetCsr", unfollowed := true, recurses := true, apart := false, narrowed := true }
def FnExactGetCsrUptoSaid : Prop := fnExactGetCsrUptoRow.holds Try.pinned (OpenSpec.upto fnExactGetCsrSpec)

/-- 'laws.FnExactRingHart', WHERE WHAT IT READS IS OF BULK AT MOST 1048576: true; the input reads as it did. -/
def fnExactRingHartUptoRow : OpenClaim := { program := "ytcllbnancmogfaa", sum := "c7eae430c7ae03791fe5cd75f81acfad5df4e2ee7e776af330d6748fb60064c8", func := "loop.example/g00213/laws.FnExactRingHart", spec := "fnExactRingHart", unfollowed := true, recurses := true, apart := false, narrowed := true }
def FnExactRingHartUptoSaid : Prop := fnExactRingHartUptoRow.holds Try.pinned (OpenSpec.upto fnExactRingHartSpec)

/-- 'laws.FnExactBackHart', WHERE WHAT IT READS IS OF BULK AT MOST 1048576: true; the input reads as it did. -/
def fnExactBackHartUptoRow : OpenClaim := { program := "ytcllbnancmogfaa", sum := "c7eae430c7ae03791fe5cd75f81acfad5df4e2ee7e776af330d6748fb60064c8", func := "loop.example/g00213/laws.FnExactBackHart", spec := "fnExactBackHart", unfollowed := true, recurses := true, apart := false, narrowed := true }
def FnExactBackHartUptoSaid : Prop := fnExactBackHartUptoRow.holds Try.pinned (OpenSpec.upto fnExactBackHartSpec)

/-- 'laws.FnExactFeedHart', WHERE WHAT IT READS IS OF BULK AT MOST 1048576: true; the input reads as it did. -/
def fnExactFeedHartUptoRow : OpenClaim := { program := "ytcllbnancmogfaa", sum := "c7eae430c7ae03791fe5cd75f81acfad5df4e2ee7e776af330d6748fb60064c8", func := "loop.example/g00213/laws.FnExactFeedHart", spec := "fnExactFeedHart", unfollowed := true, recurses := true, apart := false, narrowed := true }
def FnExactFeedHartUptoSaid : Prop := fnExactFeedHartUptoRow.holds Try.pinned (OpenSpec.upto fnExactFeedHartSpec)

/-- 'laws.FnExactTrapHart', WHERE WHAT IT READS IS OF BULK AT MOST 1048576: true; the input reads as it did. -/
def fnExactTrapHartUptoRow : OpenClaim := { program := "ytcllbnancmogfaa", sum := "c7eae430c7ae03791fe5cd75f81acfad5df4e2ee7e776af330d6748fb60064c8", func := "loop.example/g00213/laws.FnExactTrapHart", spec := "fnExactTrapHart", unfollowed := true, recurses := true, apart := false, narrowed := true }
def FnExactTrapHartUptoSaid : Prop := fnExactTrapHartUptoRow.holds Try.pinned (OpenSpec.upto fnExactTrapHartSpec)

/-- 'laws.FnExactSetCsr', WHERE WHAT IT READS IS OF BULK AT MOST 1048576: true; the input reads as it did. -/
def fnExactSetCsrUptoRow : OpenClaim := { program := "ytcllbnancmogfaa", sum := "c7eae430c7ae03791fe5cd75f81acfad5df4e2ee7e776af330d6748fb60064c8", func := "loop.example/g00213/laws.FnExactSetCsr", spec := "fnExactSetCsr", unfollowed := true, recurses := true, apart := false, narrowed := true }
def FnExactSetCsrUptoSaid : Prop := fnExactSetCsrUptoRow.holds Try.pinned (OpenSpec.upto fnExactSetCsrSpec)

/-- 'laws.FnCsrs', WHERE WHAT IT READS IS OF BULK AT MOST 1048576: true; the input reads as it did. -/
def fnCsrsUptoRow : OpenClaim := { program := "ytcllbnancmogfaa", sum := "c7eae430c7ae03791fe5cd75f81acfad5df4e2ee7e776af330d6748fb60064c8", func := "loop.example/g00213/laws.FnCsrs", spec := "fnCsrs", unfollowed := true, recurses := true, apart := false, narrowed := true }
def FnCsrsUptoSaid : Prop := fnCsrsUptoRow.holds Try.pinned (OpenSpec.upto fnCsrsSpec)

end Rows
end Go.Proofs.Ytcllbnancmogfaa
