/-
  No cell of these rows narrows 'for every input' (looked for: loops, veiled, ifaces, maps, wideKeys, modest, calm, conditions, laid).
  DERIVED. THE GIVEN ROWS OF THIS SEAT. 12 by the template 'for every input the law returns true; each argument reads behind the call as it read before'; 0 by the template 'total and deterministic' (their statements: YtdpahckfibnagaaTotals.lean).
  GIVEN WITH THE SEED: the statements are not yours to turn. If you find one false, say at which input.
  Laid BY PROGRAM, IN A SANDBOX (cutbox-rows.mjs): the forced cells as the released guide's own fill.sh prints them over the translation 7e1adfd39449aa5f… (all of the seat's roots in one cut). By AI agents, Wed Nov 11 2026. No macro, syntax, notation, axiom, sorry.
-/
import Derived.Test.YtdpahckfibnagaaChecked
import GoSem.Claim
import GoSem.ClaimJoined
import GoSem.ClaimMapViews
import Derived.JoinedTies
import Derived.KernelRfl
namespace Go.Proofs.Ytdpahckfibnagaa
/- THE CELL 'sum', in the pinned program and in every row, IS THE sha256 OF THE DUMP (.gsa) THAT YtdpahckfibnagaaProg.lean LOADS. Nothing in Lean hashes anything: it is a label: what it is worth is what the hold of that sum in a sandbox is worth. -/
noncomputable def Try.pinned : Pinned := { name := "ytdpahckfibnagaa", sum := "7e1adfd39449aa5f5511a90894e60546ed477846b1d02b2af7d4e4a3c29e1a0c", checked := Try.checked }
namespace Rows
def none {H : Type} : Left H := { results := [], args := [] }

/-- 'laws.FnExactPolicyFault': WHATEVER THE INPUT: true; the input reads as it did. -/
def fnExactPolicyFaultSpec : ChangeSpec := { name := "fnExactPolicyFault", fn := fun _ => fun
  | [d] => { results := [.lit (.bool true)], args := [d] }
  | _ => none }
def fnExactPolicyFaultRow : OpenClaim := { program := "ytdpahckfibnagaa", sum := "7e1adfd39449aa5f5511a90894e60546ed477846b1d02b2af7d4e4a3c29e1a0c", func := "loop.example/g00213/laws.FnExactPolicyFault", spec := "fnExactPolicyFault", unfollowed := true, recurses := true, apart := false }
def FnExactPolicyFaultSaid : Prop := fnExactPolicyFaultRow.holds Try.pinned (OpenSpec.ofChange fnExactPolicyFaultSpec)

/-- ITS FALSE NEIGHBOUR: 'it returns false'. Refute it at one input. -/
def fnExactPolicyFaultWrong : ChangeSpec := { name := "fnExactPolicyFault", fn := fun _ => fun
  | [d] => { results := [.lit (.bool false)], args := [d] }
  | _ => none }
def FnExactPolicyFaultWrongFalsely : Prop := fnExactPolicyFaultRow.holds Try.pinned (OpenSpec.ofChange fnExactPolicyFaultWrong)

/-- 'laws.FnExactOwnerOf': WHATEVER THE INPUT: true; the input reads as it did. -/
def fnExactOwnerOfSpec : ChangeSpec := { name := "fnExactOwnerOf", fn := fun _ => fun
  | [d1, d2] => { results := [.lit (.bool true)], args := [d1, d2] }
  | _ => none }
def fnExactOwnerOfRow : OpenClaim := { program := "ytdpahckfibnagaa", sum := "7e1adfd39449aa5f5511a90894e60546ed477846b1d02b2af7d4e4a3c29e1a0c", func := "loop.example/g00213/laws.FnExactOwnerOf", spec := "fnExactOwnerOf", unfollowed := true, recurses := true, apart := false }
def FnExactOwnerOfSaid : Prop := fnExactOwnerOfRow.holds Try.pinned (OpenSpec.ofChange fnExactOwnerOfSpec)

/-- ITS FALSE NEIGHBOUR: 'it returns false'. Refute it at one input. -/
def fnExactOwnerOfWrong : ChangeSpec := { name := "fnExactOwnerOf", fn := fun _ => fun
  | [d1, d2] => { results := [.lit (.bool false)], args := [d1, d2] }
  | _ => none }
def FnExactOwnerOfWrongFalsely : Prop := fnExactOwnerOfRow.holds Try.pinned (OpenSpec.ofChange fnExactOwnerOfWrong)

/-- 'laws.FnExactRoundOf': WHATEVER THE INPUT: true; the input reads as it did. -/
def fnExactRoundOfSpec : ChangeSpec := { name := "fnExactRoundOf", fn := fun _ => fun
  | [d] => { results := [.lit (.bool true)], args := [d] }
  | _ => none }
def fnExactRoundOfRow : OpenClaim := { program := "ytdpahckfibnagaa", sum := "7e1adfd39449aa5f5511a90894e60546ed477846b1d02b2af7d4e4a3c29e1a0c", func := "loop.example/g00213/laws.FnExactRoundOf", spec := "fnExactRoundOf", unfollowed := true, recurses := true, apart := false }
def FnExactRoundOfSaid : Prop := fnExactRoundOfRow.holds Try.pinned (OpenSpec.ofChange fnExactRoundOfSpec)

/-- ITS FALSE NEIGHBOUR: 'it returns false'. Refute it at one input. -/
def fnExactRoundOfWrong : ChangeSpec := { name := "fnExactRoundOf", fn := fun _ => fun
  | [d] => { results := [.lit (.bool false)], args := [d] }
  | _ => none }
def FnExactRoundOfWrongFalsely : Prop := fnExactRoundOfRow.holds Try.pinned (OpenSpec.ofChange fnExactRoundOfWrong)

/-- 'laws.FnExactFramesOf': WHATEVER THE INPUT: true; the input reads as it did. -/
def fnExactFramesOfSpec : ChangeSpec := { name := "fnExactFramesOf", fn := fun _ => fun
  | [d1, d2] => { results := [.lit (.bool true)], args := [d1, d2] }
  | _ => none }
def fnExactFramesOfRow : OpenClaim := { program := "ytdpahckfibnagaa", sum := "7e1adfd39449aa5f5511a90894e60546ed477846b1d02b2af7d4e4a3c29e1a0c", func := "loop.example/g00213/laws.FnExactFramesOf", spec := "fnExactFramesOf", unfollowed := true, recurses := true, apart := false }
def FnExactFramesOfSaid : Prop := fnExactFramesOfRow.holds Try.pinned (OpenSpec.ofChange fnExactFramesOfSpec)

/-- ITS FALSE NEIGHBOUR: 'it returns false'. Refute it at one input. -/
def fnExactFramesOfWrong : ChangeSpec := { name := "fnExactFramesOf", fn := fun _ => fun
  | [d1, d2] => { results := [.lit (.bool false)], args := [d1, d2] }
  | _ => none }
def FnExactFramesOfWrongFalsely : Prop := fnExactFramesOfRow.holds Try.pinned (OpenSpec.ofChange fnExactFramesOfWrong)

/-- 'laws.FnExactTurnAt': WHATEVER THE INPUT: true; the input reads as it did. -/
def fnExactTurnAtSpec : ChangeSpec := { name := "fnExactTurnAt", fn := fun _ => fun
  | [d1, d2] => { results := [.lit (.bool true)], args := [d1, d2] }
  | _ => none }
def fnExactTurnAtRow : OpenClaim := { program := "ytdpahckfibnagaa", sum := "7e1adfd39449aa5f5511a90894e60546ed477846b1d02b2af7d4e4a3c29e1a0c", func := "loop.example/g00213/laws.FnExactTurnAt", spec := "fnExactTurnAt", unfollowed := true, recurses := true, apart := false }
def FnExactTurnAtSaid : Prop := fnExactTurnAtRow.holds Try.pinned (OpenSpec.ofChange fnExactTurnAtSpec)

/-- ITS FALSE NEIGHBOUR: 'it returns false'. Refute it at one input. -/
def fnExactTurnAtWrong : ChangeSpec := { name := "fnExactTurnAt", fn := fun _ => fun
  | [d1, d2] => { results := [.lit (.bool false)], args := [d1, d2] }
  | _ => none }
def FnExactTurnAtWrongFalsely : Prop := fnExactTurnAtRow.holds Try.pinned (OpenSpec.ofChange fnExactTurnAtWrong)

/-- 'laws.FnExactTurnsBefore': WHATEVER THE INPUT: true; the input reads as it did. -/
def fnExactTurnsBeforeSpec : ChangeSpec := { name := "fnExactTurnsBefore", fn := fun _ => fun
  | [d1, d2, d3] => { results := [.lit (.bool true)], args := [d1, d2, d3] }
  | _ => none }
def fnExactTurnsBeforeRow : OpenClaim := { program := "ytdpahckfibnagaa", sum := "7e1adfd39449aa5f5511a90894e60546ed477846b1d02b2af7d4e4a3c29e1a0c", func := "loop.example/g00213/laws.FnExactTurnsBefore", spec := "fnExactTurnsBefore", unfollowed := true, recurses := true, apart := false }
def FnExactTurnsBeforeSaid : Prop := fnExactTurnsBeforeRow.holds Try.pinned (OpenSpec.ofChange fnExactTurnsBeforeSpec)

/-- ITS FALSE NEIGHBOUR: 'it returns false'. Refute it at one input. -/
def fnExactTurnsBeforeWrong : ChangeSpec := { name := "fnExactTurnsBefore", fn := fun _ => fun
  | [d1, d2, d3] => { results := [.lit (.bool false)], args := [d1, d2, d3] }
  | _ => none }
def FnExactTurnsBeforeWrongFalsely : Prop := fnExactTurnsBeforeRow.holds Try.pinned (OpenSpec.ofChange fnExactTurnsBeforeWrong)

/-- 'laws.FnTurns': WHATEVER THE INPUT: true; the input reads as it did. -/
def fnTurnsSpec : ChangeSpec := { name := "fnTurns", fn := fun _ => fun
  | [d] => { results := [.lit (.bool true)], args := [d] }
  | _ => none }
def fnTurnsRow : OpenClaim := { program := "ytdpahckfibnagaa", sum := "7e1adfd39449aa5f5511a90894e60546ed477846b1d02b2af7d4e4a3c29e1a0c", func := "loop.example/g00213/laws.FnTurns", spec := "fnTurns", unfollowed := true, recurses := true, apart := false }
def FnTurnsSaid : Prop := fnTurnsRow.holds Try.pinned (OpenSpec.ofChange fnTurnsSpec)

/-- ITS FALSE NEIGHBOUR: 'it returns false'. Refute it at one input. -/
def fnTurnsWrong : ChangeSpec := { name := "fnTurns", fn := fun _ => fun
  | [d] => { results := [.lit (.bool false)], args := [d] }
  | _ => none }
def FnTurnsWrongFalsely : Prop := fnTurnsRow.holds Try.pinned (OpenSpec.ofChange fnTurnsWrong)

/-- 'laws.FnExactFreePages': WHATEVER THE INPUT: true; the input reads as it did. -/
def fnExactFreePagesSpec : ChangeSpec := { name := "fnExactFreePages", fn := fun _ => fun
  | [d] => { results := [.lit (.bool true)], args := [d] }
  | _ => none }
def fnExactFreePagesRow : OpenClaim := { program := "ytdpahckfibnagaa", sum := "7e1adfd39449aa5f5511a90894e60546ed477846b1d02b2af7d4e4a3c29e1a0c", func := "loop.example/g00213/laws.FnExactFreePages", spec := "fnExactFreePages", unfollowed := true, recurses := true, apart := false }
def FnExactFreePagesSaid : Prop := fnExactFreePagesRow.holds Try.pinned (OpenSpec.ofChange fnExactFreePagesSpec)

/-- ITS FALSE NEIGHBOUR: 'it returns false'. Refute it at one input. -/
def fnExactFreePagesWrong : ChangeSpec := { name := "fnExactFreePages", fn := fun _ => fun
  | [d] => { results := [.lit (.bool false)], args := [d] }
  | _ => none }
def FnExactFreePagesWrongFalsely : Prop := fnExactFreePagesRow.holds Try.pinned (OpenSpec.ofChange fnExactFreePagesWrong)

/-- 'laws.FnExactLinksTo': WHATEVER THE INPUT: true; the input reads as it did. -/
def fnExactLinksToSpec : ChangeSpec := { name := "fnExactLinksTo", fn := fun _ => fun
  | [d1, d2] => { results := [.lit (.bool true)], args := [d1, d2] }
  | _ => none }
def fnExactLinksToRow : OpenClaim := { program := "ytdpahckfibnagaa", sum := "7e1adfd39449aa5f5511a90894e60546ed477846b1d02b2af7d4e4a3c29e1a0c", func := "loop.example/g00213/laws.FnExactLinksTo", spec := "fnExactLinksTo", unfollowed := true, recurses := true, apart := false }
def FnExactLinksToSaid : Prop := fnExactLinksToRow.holds Try.pinned (OpenSpec.ofChange fnExactLinksToSpec)

/-- ITS FALSE NEIGHBOUR: 'it returns false'. Refute it at one input. -/
def fnExactLinksToWrong : ChangeSpec := { name := "fnExactLinksTo", fn := fun _ => fun
  | [d1, d2] => { results := [.lit (.bool false)], args := [d1, d2] }
  | _ => none }
def FnExactLinksToWrongFalsely : Prop := fnExactLinksToRow.holds Try.pinned (OpenSpec.ofChange fnExactLinksToWrong)

/-- 'laws.FnExactReachTo': WHATEVER THE INPUT: true; the input reads as it did. -/
def fnExactReachToSpec : ChangeSpec := { name := "fnExactReachTo", fn := fun _ => fun
  | [d1, d2] => { results := [.lit (.bool true)], args := [d1, d2] }
  | _ => none }
def fnExactReachToRow : OpenClaim := { program := "ytdpahckfibnagaa", sum := "7e1adfd39449aa5f5511a90894e60546ed477846b1d02b2af7d4e4a3c29e1a0c", func := "loop.example/g00213/laws.FnExactReachTo", spec := "fnExactReachTo", unfollowed := true, recurses := true, apart := false }
def FnExactReachToSaid : Prop := fnExactReachToRow.holds Try.pinned (OpenSpec.ofChange fnExactReachToSpec)

/-- ITS FALSE NEIGHBOUR: 'it returns false'. Refute it at one input. -/
def fnExactReachToWrong : ChangeSpec := { name := "fnExactReachTo", fn := fun _ => fun
  | [d1, d2] => { results := [.lit (.bool false)], args := [d1, d2] }
  | _ => none }
def FnExactReachToWrongFalsely : Prop := fnExactReachToRow.holds Try.pinned (OpenSpec.ofChange fnExactReachToWrong)

/-- 'laws.FnReaches': WHATEVER THE INPUT: true; the input reads as it did. -/
def fnReachesSpec : ChangeSpec := { name := "fnReaches", fn := fun _ => fun
  | [d] => { results := [.lit (.bool true)], args := [d] }
  | _ => none }
def fnReachesRow : OpenClaim := { program := "ytdpahckfibnagaa", sum := "7e1adfd39449aa5f5511a90894e60546ed477846b1d02b2af7d4e4a3c29e1a0c", func := "loop.example/g00213/laws.FnReaches", spec := "fnReaches", unfollowed := true, recurses := true, apart := false }
def FnReachesSaid : Prop := fnReachesRow.holds Try.pinned (OpenSpec.ofChange fnReachesSpec)

/-- ITS FALSE NEIGHBOUR: 'it returns false'. Refute it at one input. -/
def fnReachesWrong : ChangeSpec := { name := "fnReaches", fn := fun _ => fun
  | [d] => { results := [.lit (.bool false)], args := [d] }
  | _ => none }
def FnReachesWrongFalsely : Prop := fnReachesRow.holds Try.pinned (OpenSpec.ofChange fnReachesWrong)

/-- 'laws.FnExactLaneWords': WHATEVER THE INPUT: true; the input reads as it did. -/
def fnExactLaneWordsSpec : ChangeSpec := { name := "fnExactLaneWords", fn := fun _ => fun
  | [d1, d2, d3] => { results := [.lit (.bool true)], args := [d1, d2, d3] }
  | _ => none }
def fnExactLaneWordsRow : OpenClaim := { program := "ytdpahckfibnagaa", sum := "7e1adfd39449aa5f5511a90894e60546ed477846b1d02b2af7d4e4a3c29e1a0c", func := "loop.example/g00213/laws.FnExactLaneWords", spec := "fnExactLaneWords", unfollowed := true, recurses := true, apart := false }
def FnExactLaneWordsSaid : Prop := fnExactLaneWordsRow.holds Try.pinned (OpenSpec.ofChange fnExactLaneWordsSpec)

/-- ITS FALSE NEIGHBOUR: 'it returns false'. Refute it at one input. -/
def fnExactLaneWordsWrong : ChangeSpec := { name := "fnExactLaneWords", fn := fun _ => fun
  | [d1, d2, d3] => { results := [.lit (.bool false)], args := [d1, d2, d3] }
  | _ => none }
def FnExactLaneWordsWrongFalsely : Prop := fnExactLaneWordsRow.holds Try.pinned (OpenSpec.ofChange fnExactLaneWordsWrong)

/- THE SECOND FORM. 'bulk': how many values and letters a reading holds, each counted each time it is reached (what is shared counts as often as it is met; a slice's spare places count too). A statement '..UptoSaid' is the law's where the arguments, and the package variables that the reading takes, are together of bulk at most 1048576: NARROWER than '..Said'. Prove '..Said' where nothing that the law and all that it calls make is longer than what came in: it says more and counts as full. Else prove '..UptoSaid'. A law counts once. -/
mutual
def uptoBulk {H : Type} : DataW H → Nat
  | .lit (.string bytes) => bytes.length + 1
  | .lit _ => 1
  | .nil => 1
  | .ptr d => uptoBulk d + 1
  | .slice elems spare => uptoBulkAll elems + uptoBulkAll spare + 1
  | .agg parts => uptoBulkAll parts + 1
  | .iface _ d => uptoBulk d + 1
  | .map entries => uptoBulkEntries entries + 1
  | .held _ => 1
def uptoBulkAll {H : Type} : List (DataW H) → Nat
  | [] => 0
  | d :: r => uptoBulk d + uptoBulkAll r
def uptoBulkEntries {H : Type} : List (Lit × DataW H) → Nat
  | [] => 0
  | x :: r => uptoBulkEntry x + uptoBulkEntries r
def uptoBulkEntry {H : Type} : Lit × DataW H → Nat
  | (.string bytes, d) => bytes.length + uptoBulk d + 1
  | (_, d) => uptoBulk d + 1
 end
def uptoSmall : (H : Type) → List (DataW H) → Bool := fun _ ds => decide (uptoBulkAll ds ≤ 1048576)
def OpenSpec.upto (s : _root_.Go.ChangeSpec) : _root_.Go.OpenSpec := { _root_.Go.OpenSpec.ofChange s with cond := some uptoSmall }

/-- 'laws.FnExactPolicyFault', WHERE WHAT IT READS IS OF BULK AT MOST 1048576: true; the input reads as it did. -/
def fnExactPolicyFaultUptoRow : OpenClaim := { program := "ytdpahckfibnagaa", sum := "7e1adfd39449aa5f5511a90894e60546ed477846b1d02b2af7d4e4a3c29e1a0c", func := "loop.example/g00213/laws.FnExactPolicyFault", spec := "fnExactPolicyFault", unfollowed := true, recurses := true, apart := false, narrowed := true }
def FnExactPolicyFaultUptoSaid : Prop := fnExactPolicyFaultUptoRow.holds Try.pinned (OpenSpec.upto fnExactPolicyFaultSpec)

/-- 'laws.FnExactOwnerOf', WHERE WHAT IT READS IS OF BULK AT MOST 1048576: true; the input reads as it did. -/
def fnExactOwnerOfUptoRow : OpenClaim := { program := "ytdpahckfibnagaa", sum := "7e1adfd39449aa5f5511a90894e60546ed477846b1d02b2af7d4e4a3c29e1a0c", func := "loop.example/g00213/laws.FnExactOwnerOf", spec := "fnExactOwnerOf", unfollowed := true, recurses := true, apart := false, narrowed := true }
def FnExactOwnerOfUptoSaid : Prop := fnExactOwnerOfUptoRow.holds Try.pinned (OpenSpec.upto fnExactOwnerOfSpec)

/-- 'laws.FnExactRoundOf', WHERE WHAT IT READS IS OF BULK AT MOST 1048576: true; the input reads as it did. -/
def fnExactRoundOfUptoRow : OpenClaim := { program := "ytdpahckfibnagaa", sum := "7e1adfd39449aa5f5511a90894e60546ed477846b1d02b2af7d4e4a3c29e1a0c", func := "loop.example/g00213/laws.FnExactRoundOf", spec := "fnExactRoundOf", unfollowed := true, recurses := true, apart := false, narrowed := true }
def FnExactRoundOfUptoSaid : Prop := fnExactRoundOfUptoRow.holds Try.pinned (OpenSpec.upto fnExactRoundOfSpec)

/-- 'laws.FnExactFramesOf', WHERE WHAT IT READS IS OF BULK AT MOST 1048576: true; the input reads as it did. -/
def fnExactFramesOfUptoRow : OpenClaim := { program := "ytdpahckfibnagaa", sum := "7e1adfd39449aa5f5511a90894e60546ed477846b1d02b2af7d4e4a3c29e1a0c", func := "loop.example/g00213/laws.FnExactFramesOf", spec := "fnExactFramesOf", unfollowed := true, recurses := true, apart := false, narrowed := true }
def FnExactFramesOfUptoSaid : Prop := fnExactFramesOfUptoRow.holds Try.pinned (OpenSpec.upto fnExactFramesOfSpec)

/-- 'laws.FnExactTurnAt', WHERE WHAT IT READS IS OF BULK AT MOST 1048576: true; the input reads as it did. -/
def fnExactTurnAtUptoRow : OpenClaim := { program := "ytdpahckfibnagaa", sum := "7e1adfd39449aa5f5511a90894e60546ed477846b1d02b2af7d4e4a3c29e1a0c", func := "loop.example/g00213/laws.FnExactTurnAt", spec := "fnExactTurnAt", unfollowed := true, recurses := true, apart := false, narrowed := true }
def FnExactTurnAtUptoSaid : Prop := fnExactTurnAtUptoRow.holds Try.pinned (OpenSpec.upto fnExactTurnAtSpec)

/-- 'laws.FnExactTurnsBefore', WHERE WHAT IT READS IS OF BULK AT MOST 1048576: true; the input reads as it did. -/
def fnExactTurnsBeforeUptoRow : OpenClaim := { program := "ytdpahckfibnagaa", sum := "7e1adfd39449aa5f5511a90894e60546ed477846b1d02b2af7d4e4a3c29e1a0c", func := "loop.example/g00213/laws.FnExactTurnsBefore", spec := "fnExactTurnsBefore", unfollowed := true, recurses := true, apart := false, narrowed := true }
def FnExactTurnsBeforeUptoSaid : Prop := fnExactTurnsBeforeUptoRow.holds Try.pinned (OpenSpec.upto fnExactTurnsBeforeSpec)

/-- 'laws.FnTurns', WHERE WHAT IT READS IS OF BULK AT MOST 1048576: true; the input reads as it did. -/
def fnTurnsUptoRow : OpenClaim := { program := "ytdpahckfibnagaa", sum := "7e1adfd39449aa5f5511a90894e60546ed477846b1d02b2af7d4e4a3c29e1a0c", func := "loop.example/g00213/laws.FnTurns", spec := "fnTurns", unfollowed := true, recurses := true, apart := false, narrowed := true }
def FnTurnsUptoSaid : Prop := fnTurnsUptoRow.holds Try.pinned (OpenSpec.upto fnTurnsSpec)

/-- 'laws.FnExactFreePages', WHERE WHAT IT READS IS OF BULK AT MOST 1048576: true; the input reads as it did. -/
def fnExactFreePagesUptoRow : OpenClaim := { program := "ytdpahckfibnagaa", sum := "7e1adfd39449aa5f5511a90894e60546ed477846b1d02b2af7d4e4a3c29e1a0c", func := "loop.example/g00213/laws.FnExactFreePages", spec := "fnExactFreePages", unfollowed := true, recurses := true, apart := false, narrowed := true }
def FnExactFreePagesUptoSaid : Prop := fnExactFreePagesUptoRow.holds Try.pinned (OpenSpec.upto fnExactFreePagesSpec)

/-- 'laws.FnExactLinksTo', WHERE WHAT IT READS IS OF BULK AT MOST 1048576: true; the input reads as it did. -/
def fnExactLinksToUptoRow : OpenClaim := { program := "ytdpahckfibnagaa", sum := "7e1adfd39449aa5f5511a90894e60546ed477846b1d02b2af7d4e4a3c29e1a0c", func := "loop.example/g00213/laws.FnExactLinksTo", spec := "fnExactLinksTo", unfollowed := true, recurses := true, apart := false, narrowed := true }
def FnExactLinksToUptoSaid : Prop := fnExactLinksToUptoRow.holds Try.pinned (OpenSpec.upto fnExactLinksToSpec)

/-- 'laws.FnExactReachTo', WHERE WHAT IT READS IS OF BULK AT MOST 1048576: true; the input reads as it did. -/
def fnExactReachToUptoRow : OpenClaim := { program := "ytdpahckfibnagaa", sum := "7e1adfd39449aa5f5511a90894e60546ed477846b1d02b2af7d4e4a3c29e1a0c", func := "loop.example/g00213/laws.FnExactReachTo", spec := "fnExactReachTo", unfollowed := true, recurses := true, apart := false, narrowed := true }
def FnExactReachToUptoSaid : Prop := fnExactReachToUptoRow.holds Try.pinned (OpenSpec.upto fnExactReachToSpec)

/-- 'laws.FnReaches', WHERE WHAT IT READS IS OF BULK AT MOST 1048576: true; the input reads as it did. -/
def fnReachesUptoRow : OpenClaim := { program := "ytdpahckfibnagaa", sum := "7e1adfd39449aa5f5511a90894e60546ed477846b1d02b2af7d4e4a3c29e1a0c", func := "loop.example/g00213/laws.FnReaches", spec := "fnReaches", unfollowed := true, recurses := true, apart := false, narrowed := true }
def FnReachesUptoSaid : Prop := fnReachesUptoRow.holds Try.pinned (OpenSpec.upto fnReachesSpec)

/-- 'laws.FnExactLaneWords', WHERE WHAT IT READS IS OF BULK AT MOST 1048576: true; the input reads as it did. -/
def fnExactLaneWordsUptoRow : OpenClaim := { program := "ytdpahckfibnagaa", sum := "7e1adfd39449aa5f5511a90894e60546ed477846b1d02b2af7d4e4a3c29e1a0c", func := "loop.example/g00213/laws.FnExactLaneWords", spec := "fnExactLaneWords", unfollowed := true, recurses := true, apart := false, narrowed := true }
def FnExactLaneWordsUptoSaid : Prop := fnExactLaneWordsUptoRow.holds Try.pinned (OpenSpec.upto fnExactLaneWordsSpec)

end Rows
end Go.Proofs.Ytdpahckfibnagaa
