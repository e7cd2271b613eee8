/-
  DERIVED. GIVEN WITH THE SEED: THE CARDS: each row of YtjnbjdbndbbanaaGreatDoorRows.lean that lists a variable, with what it lists TIED to the program's text (the seventh form; the later family's looks); each row that meets fmt, with fmt's text TOLD by the authors' own Lean function (tested against real Go, not proved from fmt's source: count such statements apart). THE CARD IS WHAT COUNTS. Prove the row's statement (the work); the ties are given (YtjnbjdbndbbanaaGreatDoorTie.lean); close each card by the builder's one call (the guide's Derived/Test/ToyasCard.lean, 'card_holds'). Laid BY PROGRAM, IN A SANDBOX (cutbox-door.mjs). By AI agents, Wed Nov 11 2026. No macro, syntax, notation, axiom, sorry.
-/
import Derived.Test.YtjnbjdbndbbanaaGreatDoorRows
import GoSem.ClaimSeven
namespace Go.Proofs.YtjnbjdbndbbanaaGreatDoor
namespace Rows

/-- THE TIED CARD OF 'parltop.TopCounted'. -/
def topCountedCard : Claim7 := { stood := { row := topCountedRow, standIns := [], harness := (true, "b74952d033f6d23c7285ff3e1b6e6d409ac1c731324b45712be285760bdbd9b1"), looks := true }, kinds := [], alts := [], laidByText := true, laidKinds := [.data], laidTests := true, laidLooks := .later }
def TopCountedCardSaid : Prop := Claim7.holds Tryz.pinned (.plain (OpenSpec.ofChange topCountedSpec)) topCountedCard

/-- THE SECOND FORM's CARD OF 'parltop.TopCounted'. -/
def topCountedUptoCard : Claim7 := { stood := { row := topCountedUptoRow, standIns := [], harness := (true, "b74952d033f6d23c7285ff3e1b6e6d409ac1c731324b45712be285760bdbd9b1"), looks := true }, kinds := [], alts := [], laidByText := true, laidKinds := [.data], laidTests := true, laidLooks := .later }
def TopCountedUptoCardSaid : Prop := Claim7.holds Tryz.pinned (.plain (OpenSpec.upto topCountedSpec)) topCountedUptoCard
end Rows
end Go.Proofs.YtjnbjdbndbbanaaGreatDoor
