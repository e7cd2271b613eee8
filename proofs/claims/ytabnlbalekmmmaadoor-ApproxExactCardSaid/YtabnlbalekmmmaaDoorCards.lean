/-
  DERIVED. GIVEN WITH THE SEED: THE CARDS: each row of YtabnlbalekmmmaaDoorRows.lean that lists a variable, with what it lists TIED to the program's text (the seventh form; the later family's looks); each row that meets fmt, with fmt's text TOLD by the authors' own Lean function (tested against real Go, not proved from fmt's source: count such statements apart). THE CARD IS WHAT COUNTS. Prove the row's statement (the work); the ties are given (YtabnlbalekmmmaaDoorTie.lean); close each card by the builder's one call (the guide's Derived/Test/ToyasCard.lean, 'card_holds'). Laid BY PROGRAM, IN A SANDBOX (cutbox-door.mjs). By AI agents, Wed Nov 11 2026. No macro, syntax, notation, axiom, sorry.
-/
import Derived.Test.YtabnlbalekmmmaaDoorRows
import GoSem.ClaimSeven
namespace Go.Proofs.YtabnlbalekmmmaaDoor
namespace Rows

/-- THE TIED CARD OF 'parlkeep5.ApproxExact'. -/
def approxExactCard : Claim7 := { stood := { row := approxExactRow, standIns := [], harness := (true, "5e80ee5b9bb5cc468077b2388d15c7e967ba76f2a9882edbd4acb19adc856180"), looks := false }, kinds := [], alts := [], laidByText := true, laidKinds := [.data], laidTests := true, laidLooks := .later }
def ApproxExactCardSaid : Prop := Claim7.holds Tryd.pinned (.plain (OpenSpec.ofChange approxExactSpec)) approxExactCard

/-- THE TIED CARD OF 'parlkeep5.MeetLeast'. -/
def meetLeastCard : Claim7 := { stood := { row := meetLeastRow, standIns := [], harness := (true, "5e80ee5b9bb5cc468077b2388d15c7e967ba76f2a9882edbd4acb19adc856180"), looks := false }, kinds := [], alts := [], laidByText := true, laidKinds := [.data], laidTests := true, laidLooks := .later }
def MeetLeastCardSaid : Prop := Claim7.holds Tryd.pinned (.plain (OpenSpec.ofChange meetLeastSpec)) meetLeastCard

/-- THE TIED CARD OF 'parlkeep5.CompareInside'. -/
def compareInsideCard : Claim7 := { stood := { row := compareInsideRow, standIns := [], harness := (true, "5e80ee5b9bb5cc468077b2388d15c7e967ba76f2a9882edbd4acb19adc856180"), looks := false }, kinds := [], alts := [], laidByText := true, laidKinds := [.data], laidTests := true, laidLooks := .later }
def CompareInsideCardSaid : Prop := Claim7.holds Tryd.pinned (.plain (OpenSpec.ofChange compareInsideSpec)) compareInsideCard

/-- THE SECOND FORM's CARD OF 'parlkeep5.ApproxExact'. -/
def approxExactUptoCard : Claim7 := { stood := { row := approxExactUptoRow, standIns := [], harness := (true, "5e80ee5b9bb5cc468077b2388d15c7e967ba76f2a9882edbd4acb19adc856180"), looks := false }, kinds := [], alts := [], laidByText := true, laidKinds := [.data], laidTests := true, laidLooks := .later }
def ApproxExactUptoCardSaid : Prop := Claim7.holds Tryd.pinned (.plain (OpenSpec.upto approxExactSpec)) approxExactUptoCard

/-- THE SECOND FORM's CARD OF 'parlkeep5.MeetLeast'. -/
def meetLeastUptoCard : Claim7 := { stood := { row := meetLeastUptoRow, standIns := [], harness := (true, "5e80ee5b9bb5cc468077b2388d15c7e967ba76f2a9882edbd4acb19adc856180"), looks := false }, kinds := [], alts := [], laidByText := true, laidKinds := [.data], laidTests := true, laidLooks := .later }
def MeetLeastUptoCardSaid : Prop := Claim7.holds Tryd.pinned (.plain (OpenSpec.upto meetLeastSpec)) meetLeastUptoCard

/-- THE SECOND FORM's CARD OF 'parlkeep5.CompareInside'. -/
def compareInsideUptoCard : Claim7 := { stood := { row := compareInsideUptoRow, standIns := [], harness := (true, "5e80ee5b9bb5cc468077b2388d15c7e967ba76f2a9882edbd4acb19adc856180"), looks := false }, kinds := [], alts := [], laidByText := true, laidKinds := [.data], laidTests := true, laidLooks := .later }
def CompareInsideUptoCardSaid : Prop := Claim7.holds Tryd.pinned (.plain (OpenSpec.upto compareInsideSpec)) compareInsideUptoCard
end Rows
end Go.Proofs.YtabnlbalekmmmaaDoor
