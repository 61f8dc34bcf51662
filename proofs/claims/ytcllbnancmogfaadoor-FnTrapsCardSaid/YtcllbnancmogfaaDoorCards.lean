/-
  DERIVED. GIVEN WITH THE SEED: THE CARDS: each row of YtcllbnancmogfaaDoorRows.lean that lists a variable, with what it lists TIED to the program's text (the seventh form; the later family's looks); each row that meets fmt, with fmt's text TOLD by the authors' own Lean function (tested against real Go, not proved from fmt's source: count such statements apart). THE CARD IS WHAT COUNTS. Prove the row's statement (the work); the ties are given (YtcllbnancmogfaaDoorTie.lean); close each card by the builder's one call (the guide's Derived/Test/ToyasCard.lean, 'card_holds'). Laid BY PROGRAM, IN A SANDBOX (cutbox-door.mjs). By AI agents, Wed Nov 11 2026. No macro, syntax, notation, axiom, sorry.
-/
import Derived.Test.YtcllbnancmogfaaDoorRows
import GoSem.ClaimSeven
namespace Go.Proofs.YtcllbnancmogfaaDoor
namespace Rows

/-- THE TIED CARD OF 'laws.FnExactDueOf'. -/
def fnExactDueOfCard : Claim7 := { stood := { row := fnExactDueOfRow, standIns := [], harness := (true, "1363c46f8960ca75709407498905bb8222a74ca99450cacdce47cfc1816261cc"), looks := false }, kinds := [], alts := [], laidByText := true, laidKinds := [.data], laidTests := true, laidLooks := .later }
def FnExactDueOfCardSaid : Prop := Claim7.holds Tryd.pinned (.plain (OpenSpec.ofChange fnExactDueOfSpec)) fnExactDueOfCard

/-- THE TIED CARD OF 'laws.FnTraps'. -/
def fnTrapsCard : Claim7 := { stood := { row := fnTrapsRow, standIns := [], harness := (true, "1363c46f8960ca75709407498905bb8222a74ca99450cacdce47cfc1816261cc"), looks := false }, kinds := [], alts := [], laidByText := true, laidKinds := [.data], laidTests := true, laidLooks := .later }
def FnTrapsCardSaid : Prop := Claim7.holds Tryd.pinned (.plain (OpenSpec.ofChange fnTrapsSpec)) fnTrapsCard

/-- THE SECOND FORM's CARD OF 'laws.FnExactDueOf'. -/
def fnExactDueOfUptoCard : Claim7 := { stood := { row := fnExactDueOfUptoRow, standIns := [], harness := (true, "1363c46f8960ca75709407498905bb8222a74ca99450cacdce47cfc1816261cc"), looks := false }, kinds := [], alts := [], laidByText := true, laidKinds := [.data], laidTests := true, laidLooks := .later }
def FnExactDueOfUptoCardSaid : Prop := Claim7.holds Tryd.pinned (.plain (OpenSpec.upto fnExactDueOfSpec)) fnExactDueOfUptoCard

/-- THE SECOND FORM's CARD OF 'laws.FnTraps'. -/
def fnTrapsUptoCard : Claim7 := { stood := { row := fnTrapsUptoRow, standIns := [], harness := (true, "1363c46f8960ca75709407498905bb8222a74ca99450cacdce47cfc1816261cc"), looks := false }, kinds := [], alts := [], laidByText := true, laidKinds := [.data], laidTests := true, laidLooks := .later }
def FnTrapsUptoCardSaid : Prop := Claim7.holds Tryd.pinned (.plain (OpenSpec.upto fnTrapsSpec)) fnTrapsUptoCard
end Rows
end Go.Proofs.YtcllbnancmogfaaDoor
