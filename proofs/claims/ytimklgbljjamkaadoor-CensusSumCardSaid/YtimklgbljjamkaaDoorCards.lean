/-
  DERIVED. GIVEN WITH THE SEED: THE CARDS: each row of YtimklgbljjamkaaDoorRows.lean that lists a variable, with what it lists TIED to the program's text (the seventh form; the later family's looks); each row that meets fmt, with fmt's text TOLD by the authors' own Lean function (tested against real Go, not proved from fmt's source: count such statements apart). THE CARD IS WHAT COUNTS. Prove the row's statement (the work); the ties are given (YtimklgbljjamkaaDoorTie.lean); close each card by the builder's one call (the guide's Derived/Test/ToyasCard.lean, 'card_holds'). Laid BY PROGRAM, IN A SANDBOX (cutbox-door.mjs). By AI agents, Wed Nov 11 2026. No macro, syntax, notation, axiom, sorry.
-/
import Derived.Test.YtimklgbljjamkaaDoorRows
import GoSem.ClaimSeven
namespace Go.Proofs.YtimklgbljjamkaaDoor
namespace Rows

/-- THE TIED CARD OF 'parlkeep5.CensusSum'. -/
def censusSumCard : Claim7 := { stood := { row := censusSumRow, standIns := [], harness := (true, "65cf82a2ee337a3ab5f428b4d57cd7b3ebe50528f8ae7c48adb7520b8765c881"), looks := false }, kinds := [], alts := [], laidByText := true, laidKinds := [.data], laidTests := true, laidLooks := .later }
def CensusSumCardSaid : Prop := Claim7.holds Tryd.pinned (.plain (OpenSpec.ofChange censusSumSpec)) censusSumCard

/-- THE TIED CARD OF 'parlkeep5.CompareInside'. -/
def compareInsideCard : Claim7 := { stood := { row := compareInsideRow, standIns := [], harness := (true, "65cf82a2ee337a3ab5f428b4d57cd7b3ebe50528f8ae7c48adb7520b8765c881"), looks := false }, kinds := [], alts := [], laidByText := true, laidKinds := [.data], laidTests := true, laidLooks := .later }
def CompareInsideCardSaid : Prop := Claim7.holds Tryd.pinned (.plain (OpenSpec.ofChange compareInsideSpec)) compareInsideCard

/-- THE SECOND FORM's CARD OF 'parlkeep5.CensusSum'. -/
def censusSumUptoCard : Claim7 := { stood := { row := censusSumUptoRow, standIns := [], harness := (true, "65cf82a2ee337a3ab5f428b4d57cd7b3ebe50528f8ae7c48adb7520b8765c881"), looks := false }, kinds := [], alts := [], laidByText := true, laidKinds := [.data], laidTests := true, laidLooks := .later }
def CensusSumUptoCardSaid : Prop := Claim7.holds Tryd.pinned (.plain (OpenSpec.upto censusSumSpec)) censusSumUptoCard

/-- THE SECOND FORM's CARD OF 'parlkeep5.CompareInside'. -/
def compareInsideUptoCard : Claim7 := { stood := { row := compareInsideUptoRow, standIns := [], harness := (true, "65cf82a2ee337a3ab5f428b4d57cd7b3ebe50528f8ae7c48adb7520b8765c881"), looks := false }, kinds := [], alts := [], laidByText := true, laidKinds := [.data], laidTests := true, laidLooks := .later }
def CompareInsideUptoCardSaid : Prop := Claim7.holds Tryd.pinned (.plain (OpenSpec.upto compareInsideSpec)) compareInsideUptoCard
end Rows
end Go.Proofs.YtimklgbljjamkaaDoor
