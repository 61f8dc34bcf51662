/-
  No cell of these rows narrows 'for every input' (looked for: loops, veiled, ifaces, maps, wideKeys, modest, calm, conditions, laid).
  DERIVED. THE GIVEN ROWS OF THIS SEAT. 10 by the template 'for every input the law returns true; each argument reads behind the call as it read before'; 0 by the template 'total and deterministic' (their statements: YtfcekiehcchebaaTotals.lean).
  GIVEN WITH THE SEED: the statements are not yours to turn. If you find one false, say at which input.
  Laid BY PROGRAM, IN A SANDBOX (cutbox-rows.mjs): the forced cells as the released guide's own fill.sh prints them over the translation 25ee0ffc6bfec7c0… (all of the seat's roots in one cut). By AI agents, Wed Nov 11 2026. No macro, syntax, notation, axiom, sorry.
-/
import Derived.Test.YtfcekiehcchebaaChecked
import GoSem.Claim
import GoSem.ClaimJoined
import GoSem.ClaimMapViews
import Derived.JoinedTies
import Derived.KernelRfl
namespace Go.Proofs.Ytfcekiehcchebaa
/- THE CELL 'sum', in the pinned program and in every row, IS THE sha256 OF THE DUMP (.gsa) THAT YtfcekiehcchebaaProg.lean LOADS. Nothing in Lean hashes anything: it is a label: what it is worth is what the hold of that sum in a sandbox is worth. -/
noncomputable def Try.pinned : Pinned := { name := "ytfcekiehcchebaa", sum := "25ee0ffc6bfec7c055312d9316503a8c1e736eb871eadfb9b7b66d6cbf752d00", checked := Try.checked }
namespace Rows
def none {H : Type} : Left H := { results := [], args := [] }

/-- 'laws.FnExactSoloFault': WHATEVER THE INPUT: true; the input reads as it did. -/
def fnExactSoloFaultSpec : ChangeSpec := { name := "fnExactSoloFault", fn := fun _ => fun
  | [d] => { results := [.lit (.bool true)], args := [d] }
  | _ => none }
def fnExactSoloFaultRow : OpenClaim := { program := "ytfcekiehcchebaa", sum := "25ee0ffc6bfec7c055312d9316503a8c1e736eb871eadfb9b7b66d6cbf752d00", func := "loop.example/g00213/laws.FnExactSoloFault", spec := "fnExactSoloFault", unfollowed := true, recurses := true, apart := false }
def FnExactSoloFaultSaid : Prop := fnExactSoloFaultRow.holds Try.pinned (OpenSpec.ofChange fnExactSoloFaultSpec)

/-- ITS FALSE NEIGHBOUR: 'it returns false'. Refute it at one input. -/
def fnExactSoloFaultWrong : ChangeSpec := { name := "fnExactSoloFault", fn := fun _ => fun
  | [d] => { results := [.lit (.bool false)], args := [d] }
  | _ => none }
def FnExactSoloFaultWrongFalsely : Prop := fnExactSoloFaultRow.holds Try.pinned (OpenSpec.ofChange fnExactSoloFaultWrong)

/-- 'laws.FnExactDeviceRead': WHATEVER THE INPUT: true; the input reads as it did. -/
def fnExactDeviceReadSpec : ChangeSpec := { name := "fnExactDeviceRead", fn := fun _ => fun
  | [d1, d2] => { results := [.lit (.bool true)], args := [d1, d2] }
  | _ => none }
def fnExactDeviceReadRow : OpenClaim := { program := "ytfcekiehcchebaa", sum := "25ee0ffc6bfec7c055312d9316503a8c1e736eb871eadfb9b7b66d6cbf752d00", func := "loop.example/g00213/laws.FnExactDeviceRead", spec := "fnExactDeviceRead", unfollowed := true, recurses := true, apart := false }
def FnExactDeviceReadSaid : Prop := fnExactDeviceReadRow.holds Try.pinned (OpenSpec.ofChange fnExactDeviceReadSpec)

/-- ITS FALSE NEIGHBOUR: 'it returns false'. Refute it at one input. -/
def fnExactDeviceReadWrong : ChangeSpec := { name := "fnExactDeviceRead", fn := fun _ => fun
  | [d1, d2] => { results := [.lit (.bool false)], args := [d1, d2] }
  | _ => none }
def FnExactDeviceReadWrongFalsely : Prop := fnExactDeviceReadRow.holds Try.pinned (OpenSpec.ofChange fnExactDeviceReadWrong)

/-- 'laws.FnExactDeviceWrite': WHATEVER THE INPUT: true; the input reads as it did. -/
def fnExactDeviceWriteSpec : ChangeSpec := { name := "fnExactDeviceWrite", fn := fun _ => fun
  | [d1, d2, d3] => { results := [.lit (.bool true)], args := [d1, d2, d3] }
  | _ => none }
def fnExactDeviceWriteRow : OpenClaim := { program := "ytfcekiehcchebaa", sum := "25ee0ffc6bfec7c055312d9316503a8c1e736eb871eadfb9b7b66d6cbf752d00", func := "loop.example/g00213/laws.FnExactDeviceWrite", spec := "fnExactDeviceWrite", unfollowed := true, recurses := true, apart := false }
def FnExactDeviceWriteSaid : Prop := fnExactDeviceWriteRow.holds Try.pinned (OpenSpec.ofChange fnExactDeviceWriteSpec)

/-- ITS FALSE NEIGHBOUR: 'it returns false'. Refute it at one input. -/
def fnExactDeviceWriteWrong : ChangeSpec := { name := "fnExactDeviceWrite", fn := fun _ => fun
  | [d1, d2, d3] => { results := [.lit (.bool false)], args := [d1, d2, d3] }
  | _ => none }
def FnExactDeviceWriteWrongFalsely : Prop := fnExactDeviceWriteRow.holds Try.pinned (OpenSpec.ofChange fnExactDeviceWriteWrong)

/-- 'laws.FnDevices': WHATEVER THE INPUT: true; the input reads as it did. -/
def fnDevicesSpec : ChangeSpec := { name := "fnDevices", fn := fun _ => fun
  | [d] => { results := [.lit (.bool true)], args := [d] }
  | _ => none }
def fnDevicesRow : OpenClaim := { program := "ytfcekiehcchebaa", sum := "25ee0ffc6bfec7c055312d9316503a8c1e736eb871eadfb9b7b66d6cbf752d00", func := "loop.example/g00213/laws.FnDevices", spec := "fnDevices", unfollowed := true, recurses := true, apart := false }
def FnDevicesSaid : Prop := fnDevicesRow.holds Try.pinned (OpenSpec.ofChange fnDevicesSpec)

/-- ITS FALSE NEIGHBOUR: 'it returns false'. Refute it at one input. -/
def fnDevicesWrong : ChangeSpec := { name := "fnDevices", fn := fun _ => fun
  | [d] => { results := [.lit (.bool false)], args := [d] }
  | _ => none }
def FnDevicesWrongFalsely : Prop := fnDevicesRow.holds Try.pinned (OpenSpec.ofChange fnDevicesWrong)

/-- 'laws.FnExactSoloWords': WHATEVER THE INPUT: true; the input reads as it did. -/
def fnExactSoloWordsSpec : ChangeSpec := { name := "fnExactSoloWords", fn := fun _ => fun
  | [d1, d2] => { results := [.lit (.bool true)], args := [d1, d2] }
  | _ => none }
def fnExactSoloWordsRow : OpenClaim := { program := "ytfcekiehcchebaa", sum := "25ee0ffc6bfec7c055312d9316503a8c1e736eb871eadfb9b7b66d6cbf752d00", func := "loop.example/g00213/laws.FnExactSoloWords", spec := "fnExactSoloWords", unfollowed := true, recurses := true, apart := false }
def FnExactSoloWordsSaid : Prop := fnExactSoloWordsRow.holds Try.pinned (OpenSpec.ofChange fnExactSoloWordsSpec)

/-- ITS FALSE NEIGHBOUR: 'it returns false'. Refute it at one input. -/
def fnExactSoloWordsWrong : ChangeSpec := { name := "fnExactSoloWords", fn := fun _ => fun
  | [d1, d2] => { results := [.lit (.bool false)], args := [d1, d2] }
  | _ => none }
def FnExactSoloWordsWrongFalsely : Prop := fnExactSoloWordsRow.holds Try.pinned (OpenSpec.ofChange fnExactSoloWordsWrong)

/-- 'laws.FnExactSpaceOf': WHATEVER THE INPUT: true; the input reads as it did. -/
def fnExactSpaceOfSpec : ChangeSpec := { name := "fnExactSpaceOf", fn := fun _ => fun
  | [d1, d2, d3] => { results := [.lit (.bool true)], args := [d1, d2, d3] }
  | _ => none }
def fnExactSpaceOfRow : OpenClaim := { program := "ytfcekiehcchebaa", sum := "25ee0ffc6bfec7c055312d9316503a8c1e736eb871eadfb9b7b66d6cbf752d00", func := "loop.example/g00213/laws.FnExactSpaceOf", spec := "fnExactSpaceOf", unfollowed := true, recurses := true, apart := false }
def FnExactSpaceOfSaid : Prop := fnExactSpaceOfRow.holds Try.pinned (OpenSpec.ofChange fnExactSpaceOfSpec)

/-- ITS FALSE NEIGHBOUR: 'it returns false'. Refute it at one input. -/
def fnExactSpaceOfWrong : ChangeSpec := { name := "fnExactSpaceOf", fn := fun _ => fun
  | [d1, d2, d3] => { results := [.lit (.bool false)], args := [d1, d2, d3] }
  | _ => none }
def FnExactSpaceOfWrongFalsely : Prop := fnExactSpaceOfRow.holds Try.pinned (OpenSpec.ofChange fnExactSpaceOfWrong)

/-- 'laws.FnExactPlaceOf': WHATEVER THE INPUT: true; the input reads as it did. -/
def fnExactPlaceOfSpec : ChangeSpec := { name := "fnExactPlaceOf", fn := fun _ => fun
  | [d1, d2, d3, d4, d5] => { results := [.lit (.bool true)], args := [d1, d2, d3, d4, d5] }
  | _ => none }
def fnExactPlaceOfRow : OpenClaim := { program := "ytfcekiehcchebaa", sum := "25ee0ffc6bfec7c055312d9316503a8c1e736eb871eadfb9b7b66d6cbf752d00", func := "loop.example/g00213/laws.FnExactPlaceOf", spec := "fnExactPlaceOf", unfollowed := true, recurses := true, apart := false }
def FnExactPlaceOfSaid : Prop := fnExactPlaceOfRow.holds Try.pinned (OpenSpec.ofChange fnExactPlaceOfSpec)

/-- ITS FALSE NEIGHBOUR: 'it returns false'. Refute it at one input. -/
def fnExactPlaceOfWrong : ChangeSpec := { name := "fnExactPlaceOf", fn := fun _ => fun
  | [d1, d2, d3, d4, d5] => { results := [.lit (.bool false)], args := [d1, d2, d3, d4, d5] }
  | _ => none }
def FnExactPlaceOfWrongFalsely : Prop := fnExactPlaceOfRow.holds Try.pinned (OpenSpec.ofChange fnExactPlaceOfWrong)

/-- 'laws.FnExactFeedSolo': WHATEVER THE INPUT: true; the input reads as it did. -/
def fnExactFeedSoloSpec : ChangeSpec := { name := "fnExactFeedSolo", fn := fun _ => fun
  | [d1, d2, d3] => { results := [.lit (.bool true)], args := [d1, d2, d3] }
  | _ => none }
def fnExactFeedSoloRow : OpenClaim := { program := "ytfcekiehcchebaa", sum := "25ee0ffc6bfec7c055312d9316503a8c1e736eb871eadfb9b7b66d6cbf752d00", func := "loop.example/g00213/laws.FnExactFeedSolo", spec := "fnExactFeedSolo", unfollowed := true, recurses := true, apart := false }
def FnExactFeedSoloSaid : Prop := fnExactFeedSoloRow.holds Try.pinned (OpenSpec.ofChange fnExactFeedSoloSpec)

/-- ITS FALSE NEIGHBOUR: 'it returns false'. Refute it at one input. -/
def fnExactFeedSoloWrong : ChangeSpec := { name := "fnExactFeedSolo", fn := fun _ => fun
  | [d1, d2, d3] => { results := [.lit (.bool false)], args := [d1, d2, d3] }
  | _ => none }
def FnExactFeedSoloWrongFalsely : Prop := fnExactFeedSoloRow.holds Try.pinned (OpenSpec.ofChange fnExactFeedSoloWrong)

/-- 'laws.FnExactNextIns': WHATEVER THE INPUT: true; the input reads as it did. -/
def fnExactNextInsSpec : ChangeSpec := { name := "fnExactNextIns", fn := fun _ => fun
  | [d1, d2, d3] => { results := [.lit (.bool true)], args := [d1, d2, d3] }
  | _ => none }
def fnExactNextInsRow : OpenClaim := { program := "ytfcekiehcchebaa", sum := "25ee0ffc6bfec7c055312d9316503a8c1e736eb871eadfb9b7b66d6cbf752d00", func := "loop.example/g00213/laws.FnExactNextIns", spec := "fnExactNextIns", unfollowed := true, recurses := true, apart := false }
def FnExactNextInsSaid : Prop := fnExactNextInsRow.holds Try.pinned (OpenSpec.ofChange fnExactNextInsSpec)

/-- ITS FALSE NEIGHBOUR: 'it returns false'. Refute it at one input. -/
def fnExactNextInsWrong : ChangeSpec := { name := "fnExactNextIns", fn := fun _ => fun
  | [d1, d2, d3] => { results := [.lit (.bool false)], args := [d1, d2, d3] }
  | _ => none }
def FnExactNextInsWrongFalsely : Prop := fnExactNextInsRow.holds Try.pinned (OpenSpec.ofChange fnExactNextInsWrong)

/-- 'laws.FnSpaces': WHATEVER THE INPUT: true; the input reads as it did. -/
def fnSpacesSpec : ChangeSpec := { name := "fnSpaces", fn := fun _ => fun
  | [d] => { results := [.lit (.bool true)], args := [d] }
  | _ => none }
def fnSpacesRow : OpenClaim := { program := "ytfcekiehcchebaa", sum := "25ee0ffc6bfec7c055312d9316503a8c1e736eb871eadfb9b7b66d6cbf752d00", func := "loop.example/g00213/laws.FnSpaces", spec := "fnSpaces", unfollowed := true, recurses := true, apart := false }
def FnSpacesSaid : Prop := fnSpacesRow.holds Try.pinned (OpenSpec.ofChange fnSpacesSpec)

/-- ITS FALSE NEIGHBOUR: 'it returns false'. Refute it at one input. -/
def fnSpacesWrong : ChangeSpec := { name := "fnSpaces", fn := fun _ => fun
  | [d] => { results := [.lit (.bool false)], args := [d] }
  | _ => none }
def FnSpacesWrongFalsely : Prop := fnSpacesRow.holds Try.pinned (OpenSpec.ofChange fnSpacesWrong)

/- THE SECOND FORM. 'bulk': how many values and letters a reading holds, each counted each time it is reached (what is shared counts as often as it is met; a slice's spare places count too). A statement '..UptoSaid' is the law's where the arguments, and the package variables that the reading takes, are together of bulk at most 1048576: NARROWER than '..Said'. Prove '..Said' where nothing that the law and all that it calls make is longer than what came in: it says more and counts as full. Else prove '..UptoSaid'. A law counts once. -/
mutual
def uptoBulk {H : Type} : DataW H → Nat
  | .lit (.string bytes) => bytes.length + 1
  | .lit _ => 1
  | .nil => 1
  | .ptr d => uptoBulk d + 1
  | .slice elems spare => uptoBulkAll elems + uptoBulkAll spare + 1
  | .agg parts => uptoBulkAll parts + 1
  | .iface _ d => uptoBulk d + 1
  | .map entries => uptoBulkEntries entries + 1
  | .held _ => 1
def uptoBulkAll {H : Type} : List (DataW H) → Nat
  | [] => 0
  | d :: r => uptoBulk d + uptoBulkAll r
def uptoBulkEntries {H : Type} : List (Lit × DataW H) → Nat
  | [] => 0
  | x :: r => uptoBulkEntry x + uptoBulkEntries r
def uptoBulkEntry {H : Type} : Lit × DataW H → Nat
  | (.string bytes, d) => bytes.length + uptoBulk d + 1
  | (_, d) => uptoBulk d + 1
 end
def uptoSmall : (H : Type) → List (DataW H) → Bool := fun _ ds => decide (uptoBulkAll ds ≤ 1048576)
def OpenSpec.upto (s : _root_.Go.ChangeSpec) : _root_.Go.OpenSpec := { _root_.Go.OpenSpec.ofChange s with cond := some uptoSmall }

/-- 'laws.FnExactSoloFault', WHERE WHAT IT READS IS OF BULK AT MOST 1048576: true; the input reads as it did. -/
def fnExactSoloFaultUptoRow : OpenClaim := { program := "ytfcekiehcchebaa", sum := "25ee0ffc6bfec7c055312d9316503a8c1e736eb871eadfb9b7b66d6cbf752d00", func := "loop.example/g00213/laws.FnExactSoloFault", spec := "fnExactSoloFault", unfollowed := true, recurses := true, apart := false, narrowed := true }
def FnExactSoloFaultUptoSaid : Prop := fnExactSoloFaultUptoRow.holds Try.pinned (OpenSpec.upto fnExactSoloFaultSpec)

/-- 'laws.FnExactDeviceRead', WHERE WHAT IT READS IS OF BULK AT MOST 1048576: true; the input reads as it did. -/
def fnExactDeviceReadUptoRow : OpenClaim := { program := "ytfcekiehcchebaa", sum := "25ee0ffc6bfec7c055312d9316503a8c1e736eb871eadfb9b7b66d6cbf752d00", func := "loop.example/g00213/laws.FnExactDeviceRead", spec := "fnExactDeviceRead", unfollowed := true, recurses := true, apart := false, narrowed := true }
def FnExactDeviceReadUptoSaid : Prop := fnExactDeviceReadUptoRow.holds Try.pinned (OpenSpec.upto fnExactDeviceReadSpec)

/-- 'laws.FnExactDeviceWrite', WHERE WHAT IT READS IS OF BULK AT MOST 1048576: true; the input reads as it did. -/
def fnExactDeviceWriteUptoRow : OpenClaim := { program := "ytfcekiehcchebaa", sum := "25ee0ffc6bfec7c055312d9316503a8c1e736eb871eadfb9b7b66d6cbf752d00", func := "loop.example/g00213/laws.FnExactDeviceWrite", spec := "fnExactDeviceWrite", unfollowed := true, recurses := true, apart := false, narrowed := true }
def FnExactDeviceWriteUptoSaid : Prop := fnExactDeviceWriteUptoRow.holds Try.pinned (OpenSpec.upto fnExactDeviceWriteSpec)

/-- 'laws.FnDevices', WHERE WHAT IT READS IS OF BULK AT MOST 1048576: true; the input reads as it did. -/
def fnDevicesUptoRow : OpenClaim := { program := "ytfcekiehcchebaa", sum := "25ee0ffc6bfec7c055312d9316503a8c1e736eb871eadfb9b7b66d6cbf752d00", func := "loop.example/g00213/laws.FnDevices", spec := "fnDevices", unfollowed := true, recurses := true, apart := false, narrowed := true }
def FnDevicesUptoSaid : Prop := fnDevicesUptoRow.holds Try.pinned (OpenSpec.upto fnDevicesSpec)

/-- 'laws.FnExactSoloWords', WHERE WHAT IT READS IS OF BULK AT MOST 1048576: true; the input reads as it did. -/
def fnExactSoloWordsUptoRow : OpenClaim := { program := "ytfcekiehcchebaa", sum := "25ee0ffc6bfec7c055312d9316503a8c1e736eb871eadfb9b7b66d6cbf752d00", func := "loop.example/g00213/laws.FnExactSoloWords", spec := "fnExactSoloWords", unfollowed := true, recurses := true, apart := false, narrowed := true }
def FnExactSoloWordsUptoSaid : Prop := fnExactSoloWordsUptoRow.holds Try.pinned (OpenSpec.upto fnExactSoloWordsSpec)

/-- 'laws.FnExactSpaceOf', WHERE WHAT IT READS IS OF BULK AT MOST 1048576: true; the input reads as it did. -/
def fnExactSpaceOfUptoRow : OpenClaim := { program := "ytfcekiehcchebaa", sum := "25ee0ffc6bfec7c055312d9316503a8c1e736eb871eadfb9b7b66d6cbf752d00", func := "loop.example/g00213/laws.FnExactSpaceOf", spec := "fnExactSpaceOf", unfollowed := true, recurses := true, apart := false, narrowed := true }
def FnExactSpaceOfUptoSaid : Prop := fnExactSpaceOfUptoRow.holds Try.pinned (OpenSpec.upto fnExactSpaceOfSpec)

/-- 'laws.FnExactPlaceOf', WHERE WHAT IT READS IS OF BULK AT MOST 1048576: true; the input reads as it did. -/
def fnExactPlaceOfUptoRow : OpenClaim := { program := "ytfcekiehcchebaa", sum := "25ee0ffc6bfec7c055312d9316503a8c1e736eb871eadfb9b7b66d6cbf752d00", func := "loop.example/g00213/laws.FnExactPlaceOf", spec := "fnExactPlaceOf", unfollowed := true, recurses := true, apart := false, narrowed := true }
def FnExactPlaceOfUptoSaid : Prop := fnExactPlaceOfUptoRow.holds Try.pinned (OpenSpec.upto fnExactPlaceOfSpec)

/-- 'laws.FnExactFeedSolo', WHERE WHAT IT READS IS OF BULK AT MOST 1048576: true; the input reads as it did. -/
def fnExactFeedSoloUptoRow : OpenClaim := { program := "ytfcekiehcchebaa", sum := "25ee0ffc6bfec7c055312d9316503a8c1e736eb871eadfb9b7b66d6cbf752d00", func := "loop.example/g00213/laws.FnExactFeedSolo", spec := "fnExactFeedSolo", unfollowed := true, recurses := true, apart := false, narrowed := true }
def FnExactFeedSoloUptoSaid : Prop := fnExactFeedSoloUptoRow.holds Try.pinned (OpenSpec.upto fnExactFeedSoloSpec)

/-- 'laws.FnExactNextIns', WHERE WHAT IT READS IS OF BULK AT MOST 1048576: true; the input reads as it did. -/
def fnExactNextInsUptoRow : OpenClaim := { program := "ytfcekiehcchebaa", sum := "25ee0ffc6bfec7c055312d9316503a8c1e736eb871eadfb9b7b66d6cbf752d00", func := "loop.example/g00213/laws.FnExactNextIns", spec := "fnExactNextIns", unfollowed := true, recurses := true, apart := false, narrowed := true }
def FnExactNextInsUptoSaid : Prop := fnExactNextInsUptoRow.holds Try.pinned (OpenSpec.upto fnExactNextInsSpec)

/-- 'laws.FnSpaces', WHERE WHAT IT READS IS OF BULK AT MOST 1048576: true; the input reads as it did. -/
def fnSpacesUptoRow : OpenClaim := { program := "ytfcekiehcchebaa", sum := "25ee0ffc6bfec7c055312d9316503a8c1e736eb871eadfb9b7b66d6cbf752d00", func := "loop.example/g00213/laws.FnSpaces", spec := "fnSpaces", unfollowed := true, recurses := true, apart := false, narrowed := true }
def FnSpacesUptoSaid : Prop := fnSpacesUptoRow.holds Try.pinned (OpenSpec.upto fnSpacesSpec)

end Rows
end Go.Proofs.Ytfcekiehcchebaa
