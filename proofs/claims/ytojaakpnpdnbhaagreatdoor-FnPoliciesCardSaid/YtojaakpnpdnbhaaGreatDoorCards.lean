/-
  DERIVED. GIVEN WITH THE SEED: THE CARDS: each row of YtojaakpnpdnbhaaGreatDoorRows.lean that lists a variable, with what it lists TIED to the program's text (the seventh form; the later family's looks); each row that meets fmt, with fmt's text TOLD by the authors' own Lean function (tested against real Go, not proved from fmt's source: count such statements apart). THE CARD IS WHAT COUNTS. Prove the row's statement (the work); the ties are given (YtojaakpnpdnbhaaGreatDoorTie.lean); close each card by the builder's one call (the guide's Derived/Test/ToyasCard.lean, 'card_holds'). Laid BY PROGRAM, IN A SANDBOX (cutbox-door.mjs). By AI agents, Wed Nov 11 2026. No macro, syntax, notation, axiom, sorry.
-/
import Derived.Test.YtojaakpnpdnbhaaGreatDoorRows
import GoSem.ClaimSeven
namespace Go.Proofs.YtojaakpnpdnbhaaGreatDoor
namespace Rows

/-- THE TIED CARD OF 'laws.FnExactParsePolicy'. -/
def fnExactParsePolicyCard : Claim7 := { stood := { row := fnExactParsePolicyRow, standIns := [], harness := (true, "bbe67405d155a4364471ad1d897c0afbdc935997fcae7e4c54b2cdf56fd6a091"), looks := true }, kinds := [], alts := [], laidByText := true, laidKinds := [.data, .data, .data, .data, .sentinel, .sentinel, .pinned], laidTests := true, laidLooks := .later }
def FnExactParsePolicyCardSaid : Prop := Claim7.holds Tryz.pinned (.plain (OpenSpec.ofChange fnExactParsePolicySpec)) fnExactParsePolicyCard

/-- THE TIED CARD OF 'laws.FnPolicies'. -/
def fnPoliciesCard : Claim7 := { stood := { row := fnPoliciesRow, standIns := [], harness := (true, "bbe67405d155a4364471ad1d897c0afbdc935997fcae7e4c54b2cdf56fd6a091"), looks := true }, kinds := [], alts := [], laidByText := true, laidKinds := [.data, .data, .data, .data, .sentinel, .sentinel, .pinned], laidTests := true, laidLooks := .later }
def FnPoliciesCardSaid : Prop := Claim7.holds Tryz.pinned (.plain (OpenSpec.ofChange fnPoliciesSpec)) fnPoliciesCard

/-- THE SECOND FORM's CARD OF 'laws.FnExactParsePolicy'. -/
def fnExactParsePolicyUptoCard : Claim7 := { stood := { row := fnExactParsePolicyUptoRow, standIns := [], harness := (true, "bbe67405d155a4364471ad1d897c0afbdc935997fcae7e4c54b2cdf56fd6a091"), looks := true }, kinds := [], alts := [], laidByText := true, laidKinds := [.data, .data, .data, .data, .sentinel, .sentinel, .pinned], laidTests := true, laidLooks := .later }
def FnExactParsePolicyUptoCardSaid : Prop := Claim7.holds Tryz.pinned (.plain (OpenSpec.upto fnExactParsePolicySpec)) fnExactParsePolicyUptoCard

/-- THE SECOND FORM's CARD OF 'laws.FnPolicies'. -/
def fnPoliciesUptoCard : Claim7 := { stood := { row := fnPoliciesUptoRow, standIns := [], harness := (true, "bbe67405d155a4364471ad1d897c0afbdc935997fcae7e4c54b2cdf56fd6a091"), looks := true }, kinds := [], alts := [], laidByText := true, laidKinds := [.data, .data, .data, .data, .sentinel, .sentinel, .pinned], laidTests := true, laidLooks := .later }
def FnPoliciesUptoCardSaid : Prop := Claim7.holds Tryz.pinned (.plain (OpenSpec.upto fnPoliciesSpec)) fnPoliciesUptoCard
end Rows
end Go.Proofs.YtojaakpnpdnbhaaGreatDoor
