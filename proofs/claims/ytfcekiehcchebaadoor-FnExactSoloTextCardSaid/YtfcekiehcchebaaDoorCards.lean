/-
  DERIVED. GIVEN WITH THE SEED: THE CARDS: each row of YtfcekiehcchebaaDoorRows.lean that lists a variable, with what it lists TIED to the program's text (the seventh form; the later family's looks); each row that meets fmt, with fmt's text TOLD by the authors' own Lean function (tested against real Go, not proved from fmt's source: count such statements apart). THE CARD IS WHAT COUNTS. Prove the row's statement (the work); the ties are given (YtfcekiehcchebaaDoorTie.lean); close each card by the builder's one call (the guide's Derived/Test/ToyasCard.lean, 'card_holds'). Laid BY PROGRAM, IN A SANDBOX (cutbox-door.mjs). By AI agents, Wed Nov 11 2026. No macro, syntax, notation, axiom, sorry.
-/
import Derived.Test.YtfcekiehcchebaaDoorRows
import GoSem.ClaimSeven
namespace Go.Proofs.YtfcekiehcchebaaDoor
namespace Rows

/-- THE TIED CARD OF 'laws.FnExactOutText'. -/
def fnExactOutTextCard : Claim7 := { stood := { row := fnExactOutTextRow, standIns := [], harness := (true, "582f4c29a1e1e2ed15fb635f572d24a4b7f22b31045c8d15a0b1dd5e7b2df16f"), looks := false }, kinds := [], alts := [], laidByText := true, laidKinds := [.data, .data, .data], laidTests := true, laidLooks := .later }
def FnExactOutTextCardSaid : Prop := Claim7.holds Tryd.pinned (.plain (OpenSpec.ofChange fnExactOutTextSpec)) fnExactOutTextCard

/-- THE TIED CARD OF 'laws.FnExactSoloText'. -/
def fnExactSoloTextCard : Claim7 := { stood := { row := fnExactSoloTextRow, standIns := [], harness := (true, "582f4c29a1e1e2ed15fb635f572d24a4b7f22b31045c8d15a0b1dd5e7b2df16f"), looks := false }, kinds := [], alts := [], laidByText := true, laidKinds := [.data, .data, .data], laidTests := true, laidLooks := .later }
def FnExactSoloTextCardSaid : Prop := Claim7.holds Tryd.pinned (.plain (OpenSpec.ofChange fnExactSoloTextSpec)) fnExactSoloTextCard

/-- THE SECOND FORM's CARD OF 'laws.FnExactOutText'. -/
def fnExactOutTextUptoCard : Claim7 := { stood := { row := fnExactOutTextUptoRow, standIns := [], harness := (true, "582f4c29a1e1e2ed15fb635f572d24a4b7f22b31045c8d15a0b1dd5e7b2df16f"), looks := false }, kinds := [], alts := [], laidByText := true, laidKinds := [.data, .data, .data], laidTests := true, laidLooks := .later }
def FnExactOutTextUptoCardSaid : Prop := Claim7.holds Tryd.pinned (.plain (OpenSpec.upto fnExactOutTextSpec)) fnExactOutTextUptoCard

/-- THE SECOND FORM's CARD OF 'laws.FnExactSoloText'. -/
def fnExactSoloTextUptoCard : Claim7 := { stood := { row := fnExactSoloTextUptoRow, standIns := [], harness := (true, "582f4c29a1e1e2ed15fb635f572d24a4b7f22b31045c8d15a0b1dd5e7b2df16f"), looks := false }, kinds := [], alts := [], laidByText := true, laidKinds := [.data, .data, .data], laidTests := true, laidLooks := .later }
def FnExactSoloTextUptoCardSaid : Prop := Claim7.holds Tryd.pinned (.plain (OpenSpec.upto fnExactSoloTextSpec)) fnExactSoloTextUptoCard
end Rows
end Go.Proofs.YtfcekiehcchebaaDoor
