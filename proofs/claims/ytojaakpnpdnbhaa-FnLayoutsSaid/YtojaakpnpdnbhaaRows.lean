/-
  No cell of these rows narrows 'for every input' (looked for: loops, veiled, ifaces, maps, wideKeys, modest, calm, conditions, laid).
  DERIVED. THE GIVEN ROWS OF THIS SEAT. 8 by the template 'for every input the law returns true; each argument reads behind the call as it read before'; 0 by the template 'total and deterministic' (their statements: YtojaakpnpdnbhaaTotals.lean).
  GIVEN WITH THE SEED: the statements are not yours to turn. If you find one false, say at which input.
  Laid BY PROGRAM, IN A SANDBOX (cutbox-rows.mjs): the forced cells as the released guide's own fill.sh prints them over the translation 128b0b3478d88d67… (all of the seat's roots in one cut). By AI agents, Wed Nov 11 2026. No macro, syntax, notation, axiom, sorry.
-/
import Derived.Test.YtojaakpnpdnbhaaChecked
import GoSem.Claim
import GoSem.ClaimJoined
import GoSem.ClaimMapViews
import Derived.JoinedTies
import Derived.KernelRfl
namespace Go.Proofs.Ytojaakpnpdnbhaa
/- THE CELL 'sum', in the pinned program and in every row, IS THE sha256 OF THE DUMP (.gsa) THAT YtojaakpnpdnbhaaProg.lean LOADS. Nothing in Lean hashes anything: it is a label: what it is worth is what the hold of that sum in a sandbox is worth. -/
noncomputable def Try.pinned : Pinned := { name := "ytojaakpnpdnbhaa", sum := "128b0b3478d88d67446760879cb9817d3b4a32fc20b299d9fda7225e65485eb6", checked := Try.checked }
namespace Rows
def none {H : Type} : Left H := { results := [], args := [] }

/-- 'laws.FnExactLoadImages': WHATEVER THE INPUT: true; the input reads as it did. -/
def fnExactLoadImagesSpec : ChangeSpec := { name := "fnExactLoadImages", fn := fun _ => fun
  | [d1, d2] => { results := [.lit (.bool true)], args := [d1, d2] }
  | _ => none }
def fnExactLoadImagesRow : OpenClaim := { program := "ytojaakpnpdnbhaa", sum := "128b0b3478d88d67446760879cb9817d3b4a32fc20b299d9fda7225e65485eb6", func := "loop.example/g00213/laws.FnExactLoadImages", spec := "fnExactLoadImages", unfollowed := true, recurses := true, apart := false }
def FnExactLoadImagesSaid : Prop := fnExactLoadImagesRow.holds Try.pinned (OpenSpec.ofChange fnExactLoadImagesSpec)

/-- ITS FALSE NEIGHBOUR: 'it returns false'. Refute it at one input. -/
def fnExactLoadImagesWrong : ChangeSpec := { name := "fnExactLoadImages", fn := fun _ => fun
  | [d1, d2] => { results := [.lit (.bool false)], args := [d1, d2] }
  | _ => none }
def FnExactLoadImagesWrongFalsely : Prop := fnExactLoadImagesRow.holds Try.pinned (OpenSpec.ofChange fnExactLoadImagesWrong)

/-- 'laws.FnExactWordsOf': WHATEVER THE INPUT: true; the input reads as it did. -/
def fnExactWordsOfSpec : ChangeSpec := { name := "fnExactWordsOf", fn := fun _ => fun
  | [d1, d2, d3] => { results := [.lit (.bool true)], args := [d1, d2, d3] }
  | _ => none }
def fnExactWordsOfRow : OpenClaim := { program := "ytojaakpnpdnbhaa", sum := "128b0b3478d88d67446760879cb9817d3b4a32fc20b299d9fda7225e65485eb6", func := "loop.example/g00213/laws.FnExactWordsOf", spec := "fnExactWordsOf", unfollowed := true, recurses := true, apart := false }
def FnExactWordsOfSaid : Prop := fnExactWordsOfRow.holds Try.pinned (OpenSpec.ofChange fnExactWordsOfSpec)

/-- ITS FALSE NEIGHBOUR: 'it returns false'. Refute it at one input. -/
def fnExactWordsOfWrong : ChangeSpec := { name := "fnExactWordsOf", fn := fun _ => fun
  | [d1, d2, d3] => { results := [.lit (.bool false)], args := [d1, d2, d3] }
  | _ => none }
def FnExactWordsOfWrongFalsely : Prop := fnExactWordsOfRow.holds Try.pinned (OpenSpec.ofChange fnExactWordsOfWrong)

/-- 'laws.FnExactPagesFor': WHATEVER THE INPUT: true; the input reads as it did. -/
def fnExactPagesForSpec : ChangeSpec := { name := "fnExactPagesFor", fn := fun _ => fun
  | [d1, d2] => { results := [.lit (.bool true)], args := [d1, d2] }
  | _ => none }
def fnExactPagesForRow : OpenClaim := { program := "ytojaakpnpdnbhaa", sum := "128b0b3478d88d67446760879cb9817d3b4a32fc20b299d9fda7225e65485eb6", func := "loop.example/g00213/laws.FnExactPagesFor", spec := "fnExactPagesFor", unfollowed := true, recurses := true, apart := false }
def FnExactPagesForSaid : Prop := fnExactPagesForRow.holds Try.pinned (OpenSpec.ofChange fnExactPagesForSpec)

/-- ITS FALSE NEIGHBOUR: 'it returns false'. Refute it at one input. -/
def fnExactPagesForWrong : ChangeSpec := { name := "fnExactPagesFor", fn := fun _ => fun
  | [d1, d2] => { results := [.lit (.bool false)], args := [d1, d2] }
  | _ => none }
def FnExactPagesForWrongFalsely : Prop := fnExactPagesForRow.holds Try.pinned (OpenSpec.ofChange fnExactPagesForWrong)

/-- 'laws.FnExactMapsSafe': WHATEVER THE INPUT: true; the input reads as it did. -/
def fnExactMapsSafeSpec : ChangeSpec := { name := "fnExactMapsSafe", fn := fun _ => fun
  | [d1, d2] => { results := [.lit (.bool true)], args := [d1, d2] }
  | _ => none }
def fnExactMapsSafeRow : OpenClaim := { program := "ytojaakpnpdnbhaa", sum := "128b0b3478d88d67446760879cb9817d3b4a32fc20b299d9fda7225e65485eb6", func := "loop.example/g00213/laws.FnExactMapsSafe", spec := "fnExactMapsSafe", unfollowed := true, recurses := true, apart := false }
def FnExactMapsSafeSaid : Prop := fnExactMapsSafeRow.holds Try.pinned (OpenSpec.ofChange fnExactMapsSafeSpec)

/-- ITS FALSE NEIGHBOUR: 'it returns false'. Refute it at one input. -/
def fnExactMapsSafeWrong : ChangeSpec := { name := "fnExactMapsSafe", fn := fun _ => fun
  | [d1, d2] => { results := [.lit (.bool false)], args := [d1, d2] }
  | _ => none }
def FnExactMapsSafeWrongFalsely : Prop := fnExactMapsSafeRow.holds Try.pinned (OpenSpec.ofChange fnExactMapsSafeWrong)

/-- 'laws.FnExactBuildMaps': WHATEVER THE INPUT: true; the input reads as it did. -/
def fnExactBuildMapsSpec : ChangeSpec := { name := "fnExactBuildMaps", fn := fun _ => fun
  | [d] => { results := [.lit (.bool true)], args := [d] }
  | _ => none }
def fnExactBuildMapsRow : OpenClaim := { program := "ytojaakpnpdnbhaa", sum := "128b0b3478d88d67446760879cb9817d3b4a32fc20b299d9fda7225e65485eb6", func := "loop.example/g00213/laws.FnExactBuildMaps", spec := "fnExactBuildMaps", unfollowed := true, recurses := true, apart := false }
def FnExactBuildMapsSaid : Prop := fnExactBuildMapsRow.holds Try.pinned (OpenSpec.ofChange fnExactBuildMapsSpec)

/-- ITS FALSE NEIGHBOUR: 'it returns false'. Refute it at one input. -/
def fnExactBuildMapsWrong : ChangeSpec := { name := "fnExactBuildMaps", fn := fun _ => fun
  | [d] => { results := [.lit (.bool false)], args := [d] }
  | _ => none }
def FnExactBuildMapsWrongFalsely : Prop := fnExactBuildMapsRow.holds Try.pinned (OpenSpec.ofChange fnExactBuildMapsWrong)

/-- 'laws.FnLayouts': WHATEVER THE INPUT: true; the input reads as it did. -/
def fnLayoutsSpec : ChangeSpec := { name := "fnLayouts", fn := fun _ => fun
  | [d] => { results := [.lit (.bool true)], args := [d] }
  | _ => none }
def fnLayoutsRow : OpenClaim := { program := "ytojaakpnpdnbhaa", sum := "128b0b3478d88d67446760879cb9817d3b4a32fc20b299d9fda7225e65485eb6", func := "loop.example/g00213/laws.FnLayouts", spec := "fnLayouts", unfollowed := true, recurses := true, apart := false }
def FnLayoutsSaid : Prop := fnLayoutsRow.holds Try.pinned (OpenSpec.ofChange fnLayoutsSpec)

/-- ITS FALSE NEIGHBOUR: 'it returns false'. Refute it at one input. -/
def fnLayoutsWrong : ChangeSpec := { name := "fnLayouts", fn := fun _ => fun
  | [d] => { results := [.lit (.bool false)], args := [d] }
  | _ => none }
def FnLayoutsWrongFalsely : Prop := fnLayoutsRow.holds Try.pinned (OpenSpec.ofChange fnLayoutsWrong)

/-- 'laws.FnCaches': WHATEVER THE INPUT: true; the input reads as it did. -/
def fnCachesSpec : ChangeSpec := { name := "fnCaches", fn := fun _ => fun
  | [d] => { results := [.lit (.bool true)], args := [d] }
  | _ => none }
def fnCachesRow : OpenClaim := { program := "ytojaakpnpdnbhaa", sum := "128b0b3478d88d67446760879cb9817d3b4a32fc20b299d9fda7225e65485eb6", func := "loop.example/g00213/laws.FnCaches", spec := "fnCaches", unfollowed := true, recurses := true, apart := false }
def FnCachesSaid : Prop := fnCachesRow.holds Try.pinned (OpenSpec.ofChange fnCachesSpec)

/-- ITS FALSE NEIGHBOUR: 'it returns false'. Refute it at one input. -/
def fnCachesWrong : ChangeSpec := { name := "fnCaches", fn := fun _ => fun
  | [d] => { results := [.lit (.bool false)], args := [d] }
  | _ => none }
def FnCachesWrongFalsely : Prop := fnCachesRow.holds Try.pinned (OpenSpec.ofChange fnCachesWrong)

/-- 'laws.FnExactWalkCached': WHATEVER THE INPUT: true; the input reads as it did. -/
def fnExactWalkCachedSpec : ChangeSpec := { name := "fnExactWalkCached", fn := fun _ => fun
  | [d1, d2, d3, d4, d5] => { results := [.lit (.bool true)], args := [d1, d2, d3, d4, d5] }
  | _ => none }
def fnExactWalkCachedRow : OpenClaim := { program := "ytojaakpnpdnbhaa", sum := "128b0b3478d88d67446760879cb9817d3b4a32fc20b299d9fda7225e65485eb6", func := "loop.example/g00213/laws.FnExactWalkCached", spec := "fnExactWalkCached", unfollowed := true, recurses := true, apart := false }
def FnExactWalkCachedSaid : Prop := fnExactWalkCachedRow.holds Try.pinned (OpenSpec.ofChange fnExactWalkCachedSpec)

/-- ITS FALSE NEIGHBOUR: 'it returns false'. Refute it at one input. -/
def fnExactWalkCachedWrong : ChangeSpec := { name := "fnExactWalkCached", fn := fun _ => fun
  | [d1, d2, d3, d4, d5] => { results := [.lit (.bool false)], args := [d1, d2, d3, d4, d5] }
  | _ => none }
def FnExactWalkCachedWrongFalsely : Prop := fnExactWalkCachedRow.holds Try.pinned (OpenSpec.ofChange fnExactWalkCachedWrong)

/- THE SECOND FORM. 'bulk': how many values and letters a reading holds, each counted each time it is reached (what is shared counts as often as it is met; a slice's spare places count too). A statement '..UptoSaid' is the law's where the arguments, and the package variables that the reading takes, are together of bulk at most 1048576: NARROWER than '..Said'. Prove '..Said' where nothing that the law and all that it calls make is longer than what came in: it says more and counts as full. Else prove '..UptoSaid'. A law counts once. -/
mutual
def uptoBulk {H : Type} : DataW H → Nat
  | .lit (.string bytes) => bytes.length + 1
  | .lit _ => 1
  | .nil => 1
  | .ptr d => uptoBulk d + 1
  | .slice elems spare => uptoBulkAll elems + uptoBulkAll spare + 1
  | .agg parts => uptoBulkAll parts + 1
  | .iface _ d => uptoBulk d + 1
  | .map entries => uptoBulkEntries entries + 1
  | .held _ => 1
def uptoBulkAll {H : Type} : List (DataW H) → Nat
  | [] => 0
  | d :: r => uptoBulk d + uptoBulkAll r
def uptoBulkEntries {H : Type} : List (Lit × DataW H) → Nat
  | [] => 0
  | x :: r => uptoBulkEntry x + uptoBulkEntries r
def uptoBulkEntry {H : Type} : Lit × DataW H → Nat
  | (.string bytes, d) => bytes.length + uptoBulk d + 1
  | (_, d) => uptoBulk d + 1
 end
def uptoSmall : (H : Type) → List (DataW H) → Bool := fun _ ds => decide (uptoBulkAll ds ≤ 1048576)
def OpenSpec.upto (s : _root_.Go.ChangeSpec) : _root_.Go.OpenSpec := { _root_.Go.OpenSpec.ofChange s with cond := some uptoSmall }

/-- 'laws.FnExactLoadImages', WHERE WHAT IT READS IS OF BULK AT MOST 1048576: true; the input reads as it did. -/
def fnExactLoadImagesUptoRow : OpenClaim := { program := "ytojaakpnpdnbhaa", sum := "128b0b3478d88d67446760879cb9817d3b4a32fc20b299d9fda7225e65485eb6", func := "loop.example/g00213/laws.FnExactLoadImages", spec := "fnExactLoadImages", unfollowed := true, recurses := true, apart := false, narrowed := true }
def FnExactLoadImagesUptoSaid : Prop := fnExactLoadImagesUptoRow.holds Try.pinned (OpenSpec.upto fnExactLoadImagesSpec)

/-- 'laws.FnExactWordsOf', WHERE WHAT IT READS IS OF BULK AT MOST 1048576: true; the input reads as it did. -/
def fnExactWordsOfUptoRow : OpenClaim := { program := "ytojaakpnpdnbhaa", sum := "128b0b3478d88d67446760879cb9817d3b4a32fc20b299d9fda7225e65485eb6", func := "loop.example/g00213/laws.FnExactWordsOf", spec := "fnExactWordsOf", unfollowed := true, recurses := true, apart := false, narrowed := true }
def FnExactWordsOfUptoSaid : Prop := fnExactWordsOfUptoRow.holds Try.pinned (OpenSpec.upto fnExactWordsOfSpec)

/-- 'laws.FnExactPagesFor', WHERE WHAT IT READS IS OF BULK AT MOST 1048576: true; the input reads as it did. -/
def fnExactPagesForUptoRow : OpenClaim := { program := "ytojaakpnpdnbhaa", sum := "128b0b3478d88d67446760879cb9817d3b4a32fc20b299d9fda7225e65485eb6", func := "loop.example/g00213/laws.FnExactPagesFor", spec := "fnExactPagesFor", unfollowed := true, recurses := true, apart := false, narrowed := true }
def FnExactPagesForUptoSaid : Prop := fnExactPagesForUptoRow.holds Try.pinned (OpenSpec.upto fnExactPagesForSpec)

/-- 'laws.FnExactMapsSafe', WHERE WHAT IT READS IS OF BULK AT MOST 1048576: true; the input reads as it did. -/
def fnExactMapsSafeUptoRow : OpenClaim := { program := "ytojaakpnpdnbhaa", sum := "128b0b3478d88d67446760879cb9817d3b4a32fc20b299d9fda7225e65485eb6", func := "loop.example/g00213/laws.FnExactMapsSafe", spec := "fnExactMapsSafe", unfollowed := true, recurses := true, apart := false, narrowed := true }
def FnExactMapsSafeUptoSaid : Prop := fnExactMapsSafeUptoRow.holds Try.pinned (OpenSpec.upto fnExactMapsSafeSpec)

/-- 'laws.FnExactBuildMaps', WHERE WHAT IT READS IS OF BULK AT MOST 1048576: true; the input reads as it did. -/
def fnExactBuildMapsUptoRow : OpenClaim := { program := "ytojaakpnpdnbhaa", sum := "128b0b3478d88d67446760879cb9817d3b4a32fc20b299d9fda7225e65485eb6", func := "loop.example/g00213/laws.FnExactBuildMaps", spec := "fnExactBuildMaps", unfollowed := true, recurses := true, apart := false, narrowed := true }
def FnExactBuildMapsUptoSaid : Prop := fnExactBuildMapsUptoRow.holds Try.pinned (OpenSpec.upto fnExactBuildMapsSpec)

/-- 'laws.FnLayouts', WHERE WHAT IT READS IS OF BULK AT MOST 1048576: true; the input reads as it did. -/
def fnLayoutsUptoRow : OpenClaim := { program := "ytojaakpnpdnbhaa", sum := "128b0b3478d88d67446760879cb9817d3b4a32fc20b299d9fda7225e65485eb6", func := "loop.example/g00213/laws.FnLayouts", spec := "fnLayouts", unfollowed := true, recurses := true, apart := false, narrowed := true }
def FnLayoutsUptoSaid : Prop := fnLayoutsUptoRow.holds Try.pinned (OpenSpec.upto fnLayoutsSpec)

/-- 'laws.FnCaches', WHERE WHAT IT READS IS OF BULK AT MOST 1048576: true; the input reads as it did. -/
def fnCachesUptoRow : OpenClaim := { program := "ytojaakpnpdnbhaa", sum := "128b0b3478d88d67446760879cb9817d3b4a32fc20b299d9fda7225e65485eb6", func := "loop.example/g00213/laws.FnCaches", spec := "fnCaches", unfollowed := true, recurses := true, apart := false, narrowed := true }
def FnCachesUptoSaid : Prop := fnCachesUptoRow.holds Try.pinned (OpenSpec.upto fnCachesSpec)

/-- 'laws.FnExactWalkCached', WHERE WHAT IT READS IS OF BULK AT MOST 1048576: true; the input reads as it did. -/
def fnExactWalkCachedUptoRow : OpenClaim := { program := "ytojaakpnpdnbhaa", sum := "128b0b3478d88d67446760879cb9817d3b4a32fc20b299d9fda7225e65485eb6", func := "loop.example/g00213/laws.FnExactWalkCached", spec := "fnExactWalkCached", unfollowed := true, recurses := true, apart := false, narrowed := true }
def FnExactWalkCachedUptoSaid : Prop := fnExactWalkCachedUptoRow.holds Try.pinned (OpenSpec.upto fnExactWalkCachedSpec)

end Rows
end Go.Proofs.Ytojaakpnpdnbhaa
