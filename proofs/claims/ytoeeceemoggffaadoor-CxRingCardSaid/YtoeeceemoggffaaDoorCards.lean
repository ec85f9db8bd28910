/-
  DERIVED. GIVEN WITH THE SEED: THE CARDS: each row of YtoeeceemoggffaaDoorRows.lean that lists a variable, with what it lists TIED to the program's text (the seventh form; the later family's looks); each row that meets fmt, with fmt's text TOLD by the authors' own Lean function (tested against real Go, not proved from fmt's source: count such statements apart). THE CARD IS WHAT COUNTS. Prove the row's statement (the work); the ties are given (YtoeeceemoggffaaDoorTie.lean); close each card by the builder's one call (the guide's Derived/Test/ToyasCard.lean, 'card_holds'). Laid BY PROGRAM, IN A SANDBOX (cutbox-door.mjs). By AI agents, Wed Nov 11 2026. No macro, syntax, notation, axiom, sorry.
-/
import Derived.Test.YtoeeceemoggffaaDoorRows
import GoSem.ClaimSeven
namespace Go.Proofs.YtoeeceemoggffaaDoor
namespace Rows

/-- THE TIED CARD OF 'penumbralaw01.CxRing'. -/
def cxRingCard : Claim7 := { stood := { row := cxRingRow, standIns := [], harness := (true, "3c99a992c499db80589331e486a9e12f84c4bb6737c0e7f5709c48b13d463949"), looks := true }, kinds := [], alts := [], laidByText := true, laidKinds := [.data, .data, .data, .data, .sentinel, .sentinel, .pinned], laidTests := true, laidLooks := .later }
def CxRingCardSaid : Prop := Claim7.holds Tryd.pinned (.plain (OpenSpec.ofChange cxRingSpec)) cxRingCard

/-- THE SECOND FORM's CARD OF 'penumbralaw01.CxRing'. -/
def cxRingUptoCard : Claim7 := { stood := { row := cxRingUptoRow, standIns := [], harness := (true, "3c99a992c499db80589331e486a9e12f84c4bb6737c0e7f5709c48b13d463949"), looks := true }, kinds := [], alts := [], laidByText := true, laidKinds := [.data, .data, .data, .data, .sentinel, .sentinel, .pinned], laidTests := true, laidLooks := .later }
def CxRingUptoCardSaid : Prop := Claim7.holds Tryd.pinned (.plain (OpenSpec.upto cxRingSpec)) cxRingUptoCard
end Rows
end Go.Proofs.YtoeeceemoggffaaDoor
