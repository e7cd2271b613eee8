/-
  No cell of these rows narrows 'for every input' (looked for: loops, veiled, ifaces, maps, wideKeys, modest, calm, conditions, laid).
  DERIVED. THE GIVEN ROWS OF THIS SEAT. 3 by the template 'for every input the law returns true; each argument reads behind the call as it read before'; 0 by the template 'total and deterministic' (their statements: YtbmcoamdfpegnaaTotals.lean).
  GIVEN WITH THE SEED: the statements are not yours to turn. If you find one false, say at which input.
  Laid BY PROGRAM, IN A SANDBOX (cutbox-rows.mjs): the forced cells as the released guide's own fill.sh prints them over the translation 90ce4c711e08718a… (all of the seat's roots in one cut). By AI agents, Wed Nov 11 2026. No macro, syntax, notation, axiom, sorry.
-/
import Derived.Test.YtbmcoamdfpegnaaChecked
import GoSem.Claim
import GoSem.ClaimJoined
import GoSem.ClaimMapViews
import Derived.JoinedTies
import Derived.KernelRfl
namespace Go.Proofs.Ytbmcoamdfpegnaa
/- THE CELL 'sum', in the pinned program and in every row, IS THE sha256 OF THE DUMP (.gsa) THAT YtbmcoamdfpegnaaProg.lean LOADS. Nothing in Lean hashes anything: it is a label: what it is worth is what the hold of that sum in a sandbox is worth. -/
noncomputable def Try.pinned : Pinned := { name := "ytbmcoamdfpegnaa", sum := "90ce4c711e08718a4915b5ca3a6f43482ce79141b8d4c9e3879cfcede2c69a36", checked := Try.checked }
namespace Rows
def none {H : Type} : Left H := { results := [], args := [] }

/-- 'parlkeep5.MeetNeeded': WHATEVER THE INPUT: true; the input reads as it did. -/
def meetNeededSpec : ChangeSpec := { name := "meetNeeded", fn := fun _ => fun
  | [d1, d2] => { results := [.lit (.bool true)], args := [d1, d2] }
  | _ => none }
def meetNeededRow : OpenClaim := { program := "ytbmcoamdfpegnaa", sum := "90ce4c711e08718a4915b5ca3a6f43482ce79141b8d4c9e3879cfcede2c69a36", func := "parlance/parlkeep5.MeetNeeded", spec := "meetNeeded", unfollowed := true, recurses := true, plainKeys := false, apart := false }
def MeetNeededSaid : Prop := meetNeededRow.holds Try.pinned (OpenSpec.ofChange meetNeededSpec)

/-- ITS FALSE NEIGHBOUR: 'it returns false'. Refute it at one input. -/
def meetNeededWrong : ChangeSpec := { name := "meetNeeded", fn := fun _ => fun
  | [d1, d2] => { results := [.lit (.bool false)], args := [d1, d2] }
  | _ => none }
def MeetNeededWrongFalsely : Prop := meetNeededRow.holds Try.pinned (OpenSpec.ofChange meetNeededWrong)

/-- 'parlkeep5.MeetAll': WHATEVER THE INPUT: true; the input reads as it did. -/
def meetAllSpec : ChangeSpec := { name := "meetAll", fn := fun _ => fun
  | [d] => { results := [.lit (.bool true)], args := [d] }
  | _ => none }
def meetAllRow : OpenClaim := { program := "ytbmcoamdfpegnaa", sum := "90ce4c711e08718a4915b5ca3a6f43482ce79141b8d4c9e3879cfcede2c69a36", func := "parlance/parlkeep5.MeetAll", spec := "meetAll", unfollowed := true, recurses := true, plainKeys := false, apart := false }
def MeetAllSaid : Prop := meetAllRow.holds Try.pinned (OpenSpec.ofChange meetAllSpec)

/-- ITS FALSE NEIGHBOUR: 'it returns false'. Refute it at one input. -/
def meetAllWrong : ChangeSpec := { name := "meetAll", fn := fun _ => fun
  | [d] => { results := [.lit (.bool false)], args := [d] }
  | _ => none }
def MeetAllWrongFalsely : Prop := meetAllRow.holds Try.pinned (OpenSpec.ofChange meetAllWrong)

/-- 'parlkeep5.MeetTrees': WHATEVER THE INPUT: true; the input reads as it did. -/
def meetTreesSpec : ChangeSpec := { name := "meetTrees", fn := fun _ => fun
  | [d1, d2, d3] => { results := [.lit (.bool true)], args := [d1, d2, d3] }
  | _ => none }
def meetTreesRow : OpenClaim := { program := "ytbmcoamdfpegnaa", sum := "90ce4c711e08718a4915b5ca3a6f43482ce79141b8d4c9e3879cfcede2c69a36", func := "parlance/parlkeep5.MeetTrees", spec := "meetTrees", unfollowed := true, recurses := true, plainKeys := false, apart := false }
def MeetTreesSaid : Prop := meetTreesRow.holds Try.pinned (OpenSpec.ofChange meetTreesSpec)

/-- ITS FALSE NEIGHBOUR: 'it returns false'. Refute it at one input. -/
def meetTreesWrong : ChangeSpec := { name := "meetTrees", fn := fun _ => fun
  | [d1, d2, d3] => { results := [.lit (.bool false)], args := [d1, d2, d3] }
  | _ => none }
def MeetTreesWrongFalsely : Prop := meetTreesRow.holds Try.pinned (OpenSpec.ofChange meetTreesWrong)

/- THE SECOND FORM. 'bulk': how many values and letters a reading holds, each counted each time it is reached (what is shared counts as often as it is met; a slice's spare places count too). A statement '..UptoSaid' is the law's where the arguments, and the package variables that the reading takes, are together of bulk at most 1048576: NARROWER than '..Said'. Prove '..Said' where nothing that the law and all that it calls make is longer than what came in: it says more and counts as full. Else prove '..UptoSaid'. A law counts once. -/
mutual
def uptoBulk {H : Type} : DataW H → Nat
  | .lit (.string bytes) => bytes.length + 1
  | .lit _ => 1
  | .nil => 1
  | .ptr d => uptoBulk d + 1
  | .slice elems spare => uptoBulkAll elems + uptoBulkAll spare + 1
  | .agg parts => uptoBulkAll parts + 1
  | .iface _ d => uptoBulk d + 1
  | .map entries => uptoBulkEntries entries + 1
  | .held _ => 1
def uptoBulkAll {H : Type} : List (DataW H) → Nat
  | [] => 0
  | d :: r => uptoBulk d + uptoBulkAll r
def uptoBulkEntries {H : Type} : List (Lit × DataW H) → Nat
  | [] => 0
  | x :: r => uptoBulkEntry x + uptoBulkEntries r
def uptoBulkEntry {H : Type} : Lit × DataW H → Nat
  | (.string bytes, d) => bytes.length + uptoBulk d + 1
  | (_, d) => uptoBulk d + 1
 end
def uptoSmall : (H : Type) → List (DataW H) → Bool := fun _ ds => decide (uptoBulkAll ds ≤ 1048576)
def OpenSpec.upto (s : _root_.Go.ChangeSpec) : _root_.Go.OpenSpec := { _root_.Go.OpenSpec.ofChange s with cond := some uptoSmall }

/-- 'parlkeep5.MeetNeeded', WHERE WHAT IT READS IS OF BULK AT MOST 1048576: true; the input reads as it did. -/
def meetNeededUptoRow : OpenClaim := { program := "ytbmcoamdfpegnaa", sum := "90ce4c711e08718a4915b5ca3a6f43482ce79141b8d4c9e3879cfcede2c69a36", func := "parlance/parlkeep5.MeetNeeded", spec := "meetNeeded", unfollowed := true, recurses := true, plainKeys := false, apart := false, narrowed := true }
def MeetNeededUptoSaid : Prop := meetNeededUptoRow.holds Try.pinned (OpenSpec.upto meetNeededSpec)

/-- 'parlkeep5.MeetAll', WHERE WHAT IT READS IS OF BULK AT MOST 1048576: true; the input reads as it did. -/
def meetAllUptoRow : OpenClaim := { program := "ytbmcoamdfpegnaa", sum := "90ce4c711e08718a4915b5ca3a6f43482ce79141b8d4c9e3879cfcede2c69a36", func := "parlance/parlkeep5.MeetAll", spec := "meetAll", unfollowed := true, recurses := true, plainKeys := false, apart := false, narrowed := true }
def MeetAllUptoSaid : Prop := meetAllUptoRow.holds Try.pinned (OpenSpec.upto meetAllSpec)

/-- 'parlkeep5.MeetTrees', WHERE WHAT IT READS IS OF BULK AT MOST 1048576: true; the input reads as it did. -/
def meetTreesUptoRow : OpenClaim := { program := "ytbmcoamdfpegnaa", sum := "90ce4c711e08718a4915b5ca3a6f43482ce79141b8d4c9e3879cfcede2c69a36", func := "parlance/parlkeep5.MeetTrees", spec := "meetTrees", unfollowed := true, recurses := true, plainKeys := false, apart := false, narrowed := true }
def MeetTreesUptoSaid : Prop := meetTreesUptoRow.holds Try.pinned (OpenSpec.upto meetTreesSpec)

end Rows
end Go.Proofs.Ytbmcoamdfpegnaa
