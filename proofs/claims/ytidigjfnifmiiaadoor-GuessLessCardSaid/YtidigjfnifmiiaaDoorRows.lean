/-
  NARROWER THAN 'FOR EVERY INPUT', by the rows' own cells (each row's printed sentence says how): CompareSides: laid · CompareSame: laid · GuessAgrees: laid · GuessLess: laid.
  DERIVED. THE GIVEN ROWS OF THIS SEAT. 4 by the template 'for every input the law returns true; each argument reads behind the call as it read before'; 0 by the template 'total and deterministic' (their statements: YtidigjfnifmiiaaDoorTotals.lean).
  GIVEN WITH THE SEED: the statements are not yours to turn. If you find one false, say at which input.
  Laid BY PROGRAM, IN A SANDBOX (cutbox-rows.mjs): the forced cells as the released guide's own fill.sh prints them over the translation 3b77781db27df432… (all of the seat's roots in one cut). By AI agents, Wed Nov 11 2026. No macro, syntax, notation, axiom, sorry.
-/
import Derived.Test.YtidigjfnifmiiaaDoorChecked
import GoSem.Claim
import GoSem.ClaimJoined
import GoSem.ClaimMapViews
import Derived.JoinedTies
import Derived.KernelRfl
namespace Go.Proofs.YtidigjfnifmiiaaDoor
/- THE CELL 'sum', in the pinned program and in every row, IS THE sha256 OF THE DUMP (.gsa) THAT YtidigjfnifmiiaaDoorProg.lean LOADS. Nothing in Lean hashes anything: it is a label: what it is worth is what the hold of that sum in a sandbox is worth. -/
noncomputable def Tryd.pinned : Pinned := { name := "ytidigjfnifmiiaadoor", sum := "3b77781db27df432a87b7d3f7a84ce417635f59be6d0360e5c5ec42877eb78c7", checked := Tryd.checked }
namespace Rows
def none {H : Type} : Left H := { results := [], args := [] }

/- WHAT THE LISTED PACKAGE-LEVEL VARIABLES READ AS WHEN THE CALL BEGINS. Each datum BY PROGRAM (the guide's laid-datum.mjs) off the statement by which the dump's own 'gosem.cut.vars' lays the variable. In a bare row this is a premise. The card (YtidigjfnifmiiaaDoorCards.lean) ties it to the program's text. -/
def laid_math_bits_deBruijn32tab {H : Type} : DataW H := .agg [.lit (.int .u8 0), .lit (.int .u8 1), .lit (.int .u8 28), .lit (.int .u8 2), .lit (.int .u8 29), .lit (.int .u8 14), .lit (.int .u8 24), .lit (.int .u8 3), .lit (.int .u8 30), .lit (.int .u8 22), .lit (.int .u8 20), .lit (.int .u8 15), .lit (.int .u8 25), .lit (.int .u8 17), .lit (.int .u8 4), .lit (.int .u8 8), .lit (.int .u8 31), .lit (.int .u8 27), .lit (.int .u8 13), .lit (.int .u8 23), .lit (.int .u8 21), .lit (.int .u8 19), .lit (.int .u8 16), .lit (.int .u8 7), .lit (.int .u8 26), .lit (.int .u8 12), .lit (.int .u8 18), .lit (.int .u8 6), .lit (.int .u8 11), .lit (.int .u8 5), .lit (.int .u8 10), .lit (.int .u8 9)]

/-- 'parlkeep5.CompareSides': WHATEVER THE INPUT: true; the input reads as it did. -/
def compareSidesSpec : ChangeSpec := { name := "compareSides", fn := fun _ => fun
  | [d1, d2, d3] => { results := [.lit (.bool true)], args := [d1, d2, d3] }
  | _ => none }
def compareSidesRow : OpenClaim := { program := "ytidigjfnifmiiaadoor", sum := "3b77781db27df432a87b7d3f7a84ce417635f59be6d0360e5c5ec42877eb78c7", func := "parlance/parlkeep5.CompareSides", spec := "compareSides", unfollowed := true, recurses := true, named := ["math/bits.deBruijn32tab"], apart := false, laid := [("math/bits.deBruijn32tab", laid_math_bits_deBruijn32tab)] }
def CompareSidesSaid : Prop := compareSidesRow.holds Tryd.pinned (OpenSpec.ofChange compareSidesSpec)

/-- ITS FALSE NEIGHBOUR: 'it returns false'. Refute it at one input. -/
def compareSidesWrong : ChangeSpec := { name := "compareSides", fn := fun _ => fun
  | [d1, d2, d3] => { results := [.lit (.bool false)], args := [d1, d2, d3] }
  | _ => none }
def CompareSidesWrongFalsely : Prop := compareSidesRow.holds Tryd.pinned (OpenSpec.ofChange compareSidesWrong)

/-- 'parlkeep5.CompareSame': WHATEVER THE INPUT: true; the input reads as it did. -/
def compareSameSpec : ChangeSpec := { name := "compareSame", fn := fun _ => fun
  | [d1, d2] => { results := [.lit (.bool true)], args := [d1, d2] }
  | _ => none }
def compareSameRow : OpenClaim := { program := "ytidigjfnifmiiaadoor", sum := "3b77781db27df432a87b7d3f7a84ce417635f59be6d0360e5c5ec42877eb78c7", func := "parlance/parlkeep5.CompareSame", spec := "compareSame", unfollowed := true, recurses := true, named := ["math/bits.deBruijn32tab"], apart := false, laid := [("math/bits.deBruijn32tab", laid_math_bits_deBruijn32tab)] }
def CompareSameSaid : Prop := compareSameRow.holds Tryd.pinned (OpenSpec.ofChange compareSameSpec)

/-- ITS FALSE NEIGHBOUR: 'it returns false'. Refute it at one input. -/
def compareSameWrong : ChangeSpec := { name := "compareSame", fn := fun _ => fun
  | [d1, d2] => { results := [.lit (.bool false)], args := [d1, d2] }
  | _ => none }
def CompareSameWrongFalsely : Prop := compareSameRow.holds Tryd.pinned (OpenSpec.ofChange compareSameWrong)

/-- 'parlkeep5.GuessAgrees': WHATEVER THE INPUT: true; the input reads as it did. -/
def guessAgreesSpec : ChangeSpec := { name := "guessAgrees", fn := fun _ => fun
  | [d1, d2, d3] => { results := [.lit (.bool true)], args := [d1, d2, d3] }
  | _ => none }
def guessAgreesRow : OpenClaim := { program := "ytidigjfnifmiiaadoor", sum := "3b77781db27df432a87b7d3f7a84ce417635f59be6d0360e5c5ec42877eb78c7", func := "parlance/parlkeep5.GuessAgrees", spec := "guessAgrees", unfollowed := true, recurses := true, named := ["math/bits.deBruijn32tab"], apart := false, laid := [("math/bits.deBruijn32tab", laid_math_bits_deBruijn32tab)] }
def GuessAgreesSaid : Prop := guessAgreesRow.holds Tryd.pinned (OpenSpec.ofChange guessAgreesSpec)

/-- ITS FALSE NEIGHBOUR: 'it returns false'. Refute it at one input. -/
def guessAgreesWrong : ChangeSpec := { name := "guessAgrees", fn := fun _ => fun
  | [d1, d2, d3] => { results := [.lit (.bool false)], args := [d1, d2, d3] }
  | _ => none }
def GuessAgreesWrongFalsely : Prop := guessAgreesRow.holds Tryd.pinned (OpenSpec.ofChange guessAgreesWrong)

/-- 'parlkeep5.GuessLess': WHATEVER THE INPUT: true; the input reads as it did. -/
def guessLessSpec : ChangeSpec := { name := "guessLess", fn := fun _ => fun
  | [d1, d2] => { results := [.lit (.bool true)], args := [d1, d2] }
  | _ => none }
def guessLessRow : OpenClaim := { program := "ytidigjfnifmiiaadoor", sum := "3b77781db27df432a87b7d3f7a84ce417635f59be6d0360e5c5ec42877eb78c7", func := "parlance/parlkeep5.GuessLess", spec := "guessLess", unfollowed := true, recurses := true, named := ["math/bits.deBruijn32tab"], apart := false, laid := [("math/bits.deBruijn32tab", laid_math_bits_deBruijn32tab)] }
def GuessLessSaid : Prop := guessLessRow.holds Tryd.pinned (OpenSpec.ofChange guessLessSpec)

/-- ITS FALSE NEIGHBOUR: 'it returns false'. Refute it at one input. -/
def guessLessWrong : ChangeSpec := { name := "guessLess", fn := fun _ => fun
  | [d1, d2] => { results := [.lit (.bool false)], args := [d1, d2] }
  | _ => none }
def GuessLessWrongFalsely : Prop := guessLessRow.holds Tryd.pinned (OpenSpec.ofChange guessLessWrong)

/- THE SECOND FORM. 'bulk': how many values and letters a reading holds, each counted each time it is reached (what is shared counts as often as it is met; a slice's spare places count too). A statement '..UptoSaid' is the law's where the arguments, and the package variables that the reading takes, are together of bulk at most 1048576: NARROWER than '..Said'. Prove '..Said' where nothing that the law and all that it calls make is longer than what came in: it says more and counts as full. Else prove '..UptoSaid'. A law counts once. -/
mutual
def uptoBulk {H : Type} : DataW H → Nat
  | .lit (.string bytes) => bytes.length + 1
  | .lit _ => 1
  | .nil => 1
  | .ptr d => uptoBulk d + 1
  | .slice elems spare => uptoBulkAll elems + uptoBulkAll spare + 1
  | .agg parts => uptoBulkAll parts + 1
  | .iface _ d => uptoBulk d + 1
  | .map entries => uptoBulkEntries entries + 1
  | .held _ => 1
def uptoBulkAll {H : Type} : List (DataW H) → Nat
  | [] => 0
  | d :: r => uptoBulk d + uptoBulkAll r
def uptoBulkEntries {H : Type} : List (Lit × DataW H) → Nat
  | [] => 0
  | x :: r => uptoBulkEntry x + uptoBulkEntries r
def uptoBulkEntry {H : Type} : Lit × DataW H → Nat
  | (.string bytes, d) => bytes.length + uptoBulk d + 1
  | (_, d) => uptoBulk d + 1
 end
def uptoSmall : (H : Type) → List (DataW H) → Bool := fun _ ds => decide (uptoBulkAll ds ≤ 1048576)
def OpenSpec.upto (s : _root_.Go.ChangeSpec) : _root_.Go.OpenSpec := { _root_.Go.OpenSpec.ofChange s with cond := some uptoSmall }

/-- 'parlkeep5.CompareSides', WHERE WHAT IT READS IS OF BULK AT MOST 1048576: true; the input reads as it did. -/
def compareSidesUptoRow : OpenClaim := { program := "ytidigjfnifmiiaadoor", sum := "3b77781db27df432a87b7d3f7a84ce417635f59be6d0360e5c5ec42877eb78c7", func := "parlance/parlkeep5.CompareSides", spec := "compareSides", unfollowed := true, recurses := true, named := ["math/bits.deBruijn32tab"], apart := false, laid := [("math/bits.deBruijn32tab", laid_math_bits_deBruijn32tab)], narrowed := true }
def CompareSidesUptoSaid : Prop := compareSidesUptoRow.holds Tryd.pinned (OpenSpec.upto compareSidesSpec)

/-- 'parlkeep5.CompareSame', WHERE WHAT IT READS IS OF BULK AT MOST 1048576: true; the input reads as it did. -/
def compareSameUptoRow : OpenClaim := { program := "ytidigjfnifmiiaadoor", sum := "3b77781db27df432a87b7d3f7a84ce417635f59be6d0360e5c5ec42877eb78c7", func := "parlance/parlkeep5.CompareSame", spec := "compareSame", unfollowed := true, recurses := true, named := ["math/bits.deBruijn32tab"], apart := false, laid := [("math/bits.deBruijn32tab", laid_math_bits_deBruijn32tab)], narrowed := true }
def CompareSameUptoSaid : Prop := compareSameUptoRow.holds Tryd.pinned (OpenSpec.upto compareSameSpec)

/-- 'parlkeep5.GuessAgrees', WHERE WHAT IT READS IS OF BULK AT MOST 1048576: true; the input reads as it did. -/
def guessAgreesUptoRow : OpenClaim := { program := "ytidigjfnifmiiaadoor", sum := "3b77781db27df432a87b7d3f7a84ce417635f59be6d0360e5c5ec42877eb78c7", func := "parlance/parlkeep5.GuessAgrees", spec := "guessAgrees", unfollowed := true, recurses := true, named := ["math/bits.deBruijn32tab"], apart := false, laid := [("math/bits.deBruijn32tab", laid_math_bits_deBruijn32tab)], narrowed := true }
def GuessAgreesUptoSaid : Prop := guessAgreesUptoRow.holds Tryd.pinned (OpenSpec.upto guessAgreesSpec)

/-- 'parlkeep5.GuessLess', WHERE WHAT IT READS IS OF BULK AT MOST 1048576: true; the input reads as it did. -/
def guessLessUptoRow : OpenClaim := { program := "ytidigjfnifmiiaadoor", sum := "3b77781db27df432a87b7d3f7a84ce417635f59be6d0360e5c5ec42877eb78c7", func := "parlance/parlkeep5.GuessLess", spec := "guessLess", unfollowed := true, recurses := true, named := ["math/bits.deBruijn32tab"], apart := false, laid := [("math/bits.deBruijn32tab", laid_math_bits_deBruijn32tab)], narrowed := true }
def GuessLessUptoSaid : Prop := guessLessUptoRow.holds Tryd.pinned (OpenSpec.upto guessLessSpec)

end Rows
end Go.Proofs.YtidigjfnifmiiaaDoor
