/-
  DERIVED. GIVEN WITH THE SEED: THE CARDS: each row of YtidigjfnifmiiaaDoorRows.lean that lists a variable, with what it lists TIED to the program's text (the seventh form; the later family's looks); each row that meets fmt, with fmt's text TOLD by the authors' own Lean function (tested against real Go, not proved from fmt's source: count such statements apart). THE CARD IS WHAT COUNTS. Prove the row's statement (the work); the ties are given (YtidigjfnifmiiaaDoorTie.lean); close each card by the builder's one call (the guide's Derived/Test/ToyasCard.lean, 'card_holds'). Laid BY PROGRAM, IN A SANDBOX (cutbox-door.mjs). By AI agents, Wed Nov 11 2026. No macro, syntax, notation, axiom, sorry.
-/
import Derived.Test.YtidigjfnifmiiaaDoorRows
import GoSem.ClaimSeven
namespace Go.Proofs.YtidigjfnifmiiaaDoor
namespace Rows

/-- THE TIED CARD OF 'parlkeep5.CompareSides'. -/
def compareSidesCard : Claim7 := { stood := { row := compareSidesRow, standIns := [], harness := (true, "d062e7a3f95e1d25d9ae7dba2a707183ea8bea7f1e6f1173029cdbed4c912179"), looks := false }, kinds := [], alts := [], laidByText := true, laidKinds := [.data], laidTests := true, laidLooks := .later }
def CompareSidesCardSaid : Prop := Claim7.holds Tryd.pinned (.plain (OpenSpec.ofChange compareSidesSpec)) compareSidesCard

/-- THE TIED CARD OF 'parlkeep5.CompareSame'. -/
def compareSameCard : Claim7 := { stood := { row := compareSameRow, standIns := [], harness := (true, "d062e7a3f95e1d25d9ae7dba2a707183ea8bea7f1e6f1173029cdbed4c912179"), looks := false }, kinds := [], alts := [], laidByText := true, laidKinds := [.data], laidTests := true, laidLooks := .later }
def CompareSameCardSaid : Prop := Claim7.holds Tryd.pinned (.plain (OpenSpec.ofChange compareSameSpec)) compareSameCard

/-- THE TIED CARD OF 'parlkeep5.GuessAgrees'. -/
def guessAgreesCard : Claim7 := { stood := { row := guessAgreesRow, standIns := [], harness := (true, "d062e7a3f95e1d25d9ae7dba2a707183ea8bea7f1e6f1173029cdbed4c912179"), looks := false }, kinds := [], alts := [], laidByText := true, laidKinds := [.data], laidTests := true, laidLooks := .later }
def GuessAgreesCardSaid : Prop := Claim7.holds Tryd.pinned (.plain (OpenSpec.ofChange guessAgreesSpec)) guessAgreesCard

/-- THE TIED CARD OF 'parlkeep5.GuessLess'. -/
def guessLessCard : Claim7 := { stood := { row := guessLessRow, standIns := [], harness := (true, "d062e7a3f95e1d25d9ae7dba2a707183ea8bea7f1e6f1173029cdbed4c912179"), looks := false }, kinds := [], alts := [], laidByText := true, laidKinds := [.data], laidTests := true, laidLooks := .later }
def GuessLessCardSaid : Prop := Claim7.holds Tryd.pinned (.plain (OpenSpec.ofChange guessLessSpec)) guessLessCard

/-- THE SECOND FORM's CARD OF 'parlkeep5.CompareSides'. -/
def compareSidesUptoCard : Claim7 := { stood := { row := compareSidesUptoRow, standIns := [], harness := (true, "d062e7a3f95e1d25d9ae7dba2a707183ea8bea7f1e6f1173029cdbed4c912179"), looks := false }, kinds := [], alts := [], laidByText := true, laidKinds := [.data], laidTests := true, laidLooks := .later }
def CompareSidesUptoCardSaid : Prop := Claim7.holds Tryd.pinned (.plain (OpenSpec.upto compareSidesSpec)) compareSidesUptoCard

/-- THE SECOND FORM's CARD OF 'parlkeep5.CompareSame'. -/
def compareSameUptoCard : Claim7 := { stood := { row := compareSameUptoRow, standIns := [], harness := (true, "d062e7a3f95e1d25d9ae7dba2a707183ea8bea7f1e6f1173029cdbed4c912179"), looks := false }, kinds := [], alts := [], laidByText := true, laidKinds := [.data], laidTests := true, laidLooks := .later }
def CompareSameUptoCardSaid : Prop := Claim7.holds Tryd.pinned (.plain (OpenSpec.upto compareSameSpec)) compareSameUptoCard

/-- THE SECOND FORM's CARD OF 'parlkeep5.GuessAgrees'. -/
def guessAgreesUptoCard : Claim7 := { stood := { row := guessAgreesUptoRow, standIns := [], harness := (true, "d062e7a3f95e1d25d9ae7dba2a707183ea8bea7f1e6f1173029cdbed4c912179"), looks := false }, kinds := [], alts := [], laidByText := true, laidKinds := [.data], laidTests := true, laidLooks := .later }
def GuessAgreesUptoCardSaid : Prop := Claim7.holds Tryd.pinned (.plain (OpenSpec.upto guessAgreesSpec)) guessAgreesUptoCard

/-- THE SECOND FORM's CARD OF 'parlkeep5.GuessLess'. -/
def guessLessUptoCard : Claim7 := { stood := { row := guessLessUptoRow, standIns := [], harness := (true, "d062e7a3f95e1d25d9ae7dba2a707183ea8bea7f1e6f1173029cdbed4c912179"), looks := false }, kinds := [], alts := [], laidByText := true, laidKinds := [.data], laidTests := true, laidLooks := .later }
def GuessLessUptoCardSaid : Prop := Claim7.holds Tryd.pinned (.plain (OpenSpec.upto guessLessSpec)) guessLessUptoCard
end Rows
end Go.Proofs.YtidigjfnifmiiaaDoor
