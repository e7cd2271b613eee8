/-
  No cell of these rows narrows 'for every input' (looked for: loops, veiled, ifaces, maps, wideKeys, modest, calm, conditions, laid).
  DERIVED. THE GIVEN ROWS OF THIS SEAT. 10 by the template 'for every input the law returns true; each argument reads behind the call as it read before'; 0 by the template 'total and deterministic' (their statements: YthanhegomgbgbaaTotals.lean).
  GIVEN WITH THE SEED: the statements are not yours to turn. If you find one false, say at which input.
  Laid BY PROGRAM, IN A SANDBOX (cutbox-rows.mjs): the forced cells as the released guide's own fill.sh prints them over the translation 382428ac532618d9… (all of the seat's roots in one cut). By AI agents, Wed Nov 11 2026. No macro, syntax, notation, axiom, sorry.
-/
import Derived.Test.YthanhegomgbgbaaChecked
import GoSem.Claim
import GoSem.ClaimJoined
import GoSem.ClaimMapViews
import Derived.JoinedTies
import Derived.KernelRfl
namespace Go.Proofs.Ythanhegomgbgbaa
/- THE CELL 'sum', in the pinned program and in every row, IS THE sha256 OF THE DUMP (.gsa) THAT YthanhegomgbgbaaProg.lean LOADS. Nothing in Lean hashes anything: it is a label: what it is worth is what the hold of that sum in a sandbox is worth. -/
noncomputable def Try.pinned : Pinned := { name := "ythanhegomgbgbaa", sum := "382428ac532618d9495e807649fe6a27b3d5f3f5c30e5a2adec4339b195e78b1", checked := Try.checked }
namespace Rows
def none {H : Type} : Left H := { results := [], args := [] }

/-- 'parlkeep5.RankFirst': WHATEVER THE INPUT: true; the input reads as it did. -/
def rankFirstSpec : ChangeSpec := { name := "rankFirst", fn := fun _ => fun
  | [d1, d2, d3] => { results := [.lit (.bool true)], args := [d1, d2, d3] }
  | _ => none }
def rankFirstRow : OpenClaim := { program := "ythanhegomgbgbaa", sum := "382428ac532618d9495e807649fe6a27b3d5f3f5c30e5a2adec4339b195e78b1", func := "parlance/parlkeep5.RankFirst", spec := "rankFirst", unfollowed := true, recurses := true, plainKeys := false, apart := false }
def RankFirstSaid : Prop := rankFirstRow.holds Try.pinned (OpenSpec.ofChange rankFirstSpec)

/-- ITS FALSE NEIGHBOUR: 'it returns false'. Refute it at one input. -/
def rankFirstWrong : ChangeSpec := { name := "rankFirst", fn := fun _ => fun
  | [d1, d2, d3] => { results := [.lit (.bool false)], args := [d1, d2, d3] }
  | _ => none }
def RankFirstWrongFalsely : Prop := rankFirstRow.holds Try.pinned (OpenSpec.ofChange rankFirstWrong)

/-- 'parlkeep5.CensusLeast': WHATEVER THE INPUT: true; the input reads as it did. -/
def censusLeastSpec : ChangeSpec := { name := "censusLeast", fn := fun _ => fun
  | [d] => { results := [.lit (.bool true)], args := [d] }
  | _ => none }
def censusLeastRow : OpenClaim := { program := "ythanhegomgbgbaa", sum := "382428ac532618d9495e807649fe6a27b3d5f3f5c30e5a2adec4339b195e78b1", func := "parlance/parlkeep5.CensusLeast", spec := "censusLeast", unfollowed := true, recurses := true, plainKeys := false, apart := false }
def CensusLeastSaid : Prop := censusLeastRow.holds Try.pinned (OpenSpec.ofChange censusLeastSpec)

/-- ITS FALSE NEIGHBOUR: 'it returns false'. Refute it at one input. -/
def censusLeastWrong : ChangeSpec := { name := "censusLeast", fn := fun _ => fun
  | [d] => { results := [.lit (.bool false)], args := [d] }
  | _ => none }
def CensusLeastWrongFalsely : Prop := censusLeastRow.holds Try.pinned (OpenSpec.ofChange censusLeastWrong)

/-- 'parlkeep5.LensLonger': WHATEVER THE INPUT: true; the input reads as it did. -/
def lensLongerSpec : ChangeSpec := { name := "lensLonger", fn := fun _ => fun
  | [d1, d2] => { results := [.lit (.bool true)], args := [d1, d2] }
  | _ => none }
def lensLongerRow : OpenClaim := { program := "ythanhegomgbgbaa", sum := "382428ac532618d9495e807649fe6a27b3d5f3f5c30e5a2adec4339b195e78b1", func := "parlance/parlkeep5.LensLonger", spec := "lensLonger", unfollowed := true, recurses := true, plainKeys := false, apart := false }
def LensLongerSaid : Prop := lensLongerRow.holds Try.pinned (OpenSpec.ofChange lensLongerSpec)

/-- ITS FALSE NEIGHBOUR: 'it returns false'. Refute it at one input. -/
def lensLongerWrong : ChangeSpec := { name := "lensLonger", fn := fun _ => fun
  | [d1, d2] => { results := [.lit (.bool false)], args := [d1, d2] }
  | _ => none }
def LensLongerWrongFalsely : Prop := lensLongerRow.holds Try.pinned (OpenSpec.ofChange lensLongerWrong)

/-- 'parlkeep5.ShrinkTree': WHATEVER THE INPUT: true; the input reads as it did. -/
def shrinkTreeSpec : ChangeSpec := { name := "shrinkTree", fn := fun _ => fun
  | [d1, d2, d3] => { results := [.lit (.bool true)], args := [d1, d2, d3] }
  | _ => none }
def shrinkTreeRow : OpenClaim := { program := "ythanhegomgbgbaa", sum := "382428ac532618d9495e807649fe6a27b3d5f3f5c30e5a2adec4339b195e78b1", func := "parlance/parlkeep5.ShrinkTree", spec := "shrinkTree", unfollowed := true, recurses := true, plainKeys := false, apart := false }
def ShrinkTreeSaid : Prop := shrinkTreeRow.holds Try.pinned (OpenSpec.ofChange shrinkTreeSpec)

/-- ITS FALSE NEIGHBOUR: 'it returns false'. Refute it at one input. -/
def shrinkTreeWrong : ChangeSpec := { name := "shrinkTree", fn := fun _ => fun
  | [d1, d2, d3] => { results := [.lit (.bool false)], args := [d1, d2, d3] }
  | _ => none }
def ShrinkTreeWrongFalsely : Prop := shrinkTreeRow.holds Try.pinned (OpenSpec.ofChange shrinkTreeWrong)

/-- 'parlkeep5.RankTrees': WHATEVER THE INPUT: true; the input reads as it did. -/
def rankTreesSpec : ChangeSpec := { name := "rankTrees", fn := fun _ => fun
  | [d1, d2, d3] => { results := [.lit (.bool true)], args := [d1, d2, d3] }
  | _ => none }
def rankTreesRow : OpenClaim := { program := "ythanhegomgbgbaa", sum := "382428ac532618d9495e807649fe6a27b3d5f3f5c30e5a2adec4339b195e78b1", func := "parlance/parlkeep5.RankTrees", spec := "rankTrees", unfollowed := true, recurses := true, plainKeys := false, apart := false }
def RankTreesSaid : Prop := rankTreesRow.holds Try.pinned (OpenSpec.ofChange rankTreesSpec)

/-- ITS FALSE NEIGHBOUR: 'it returns false'. Refute it at one input. -/
def rankTreesWrong : ChangeSpec := { name := "rankTrees", fn := fun _ => fun
  | [d1, d2, d3] => { results := [.lit (.bool false)], args := [d1, d2, d3] }
  | _ => none }
def RankTreesWrongFalsely : Prop := rankTreesRow.holds Try.pinned (OpenSpec.ofChange rankTreesWrong)

/-- 'parlkeep5.RankBack': WHATEVER THE INPUT: true; the input reads as it did. -/
def rankBackSpec : ChangeSpec := { name := "rankBack", fn := fun _ => fun
  | [d1, d2, d3] => { results := [.lit (.bool true)], args := [d1, d2, d3] }
  | _ => none }
def rankBackRow : OpenClaim := { program := "ythanhegomgbgbaa", sum := "382428ac532618d9495e807649fe6a27b3d5f3f5c30e5a2adec4339b195e78b1", func := "parlance/parlkeep5.RankBack", spec := "rankBack", unfollowed := true, recurses := true, plainKeys := false, apart := false }
def RankBackSaid : Prop := rankBackRow.holds Try.pinned (OpenSpec.ofChange rankBackSpec)

/-- ITS FALSE NEIGHBOUR: 'it returns false'. Refute it at one input. -/
def rankBackWrong : ChangeSpec := { name := "rankBack", fn := fun _ => fun
  | [d1, d2, d3] => { results := [.lit (.bool false)], args := [d1, d2, d3] }
  | _ => none }
def RankBackWrongFalsely : Prop := rankBackRow.holds Try.pinned (OpenSpec.ofChange rankBackWrong)

/-- 'parlkeep5.DrawTree': WHATEVER THE INPUT: true; the input reads as it did. -/
def drawTreeSpec : ChangeSpec := { name := "drawTree", fn := fun _ => fun
  | [d1, d2, d3] => { results := [.lit (.bool true)], args := [d1, d2, d3] }
  | _ => none }
def drawTreeRow : OpenClaim := { program := "ythanhegomgbgbaa", sum := "382428ac532618d9495e807649fe6a27b3d5f3f5c30e5a2adec4339b195e78b1", func := "parlance/parlkeep5.DrawTree", spec := "drawTree", unfollowed := true, recurses := true, plainKeys := false, apart := false }
def DrawTreeSaid : Prop := drawTreeRow.holds Try.pinned (OpenSpec.ofChange drawTreeSpec)

/-- ITS FALSE NEIGHBOUR: 'it returns false'. Refute it at one input. -/
def drawTreeWrong : ChangeSpec := { name := "drawTree", fn := fun _ => fun
  | [d1, d2, d3] => { results := [.lit (.bool false)], args := [d1, d2, d3] }
  | _ => none }
def DrawTreeWrongFalsely : Prop := drawTreeRow.holds Try.pinned (OpenSpec.ofChange drawTreeWrong)

/-- 'parlkeep5.LensWord': WHATEVER THE INPUT: true; the input reads as it did. -/
def lensWordSpec : ChangeSpec := { name := "lensWord", fn := fun _ => fun
  | [d1, d2] => { results := [.lit (.bool true)], args := [d1, d2] }
  | _ => none }
def lensWordRow : OpenClaim := { program := "ythanhegomgbgbaa", sum := "382428ac532618d9495e807649fe6a27b3d5f3f5c30e5a2adec4339b195e78b1", func := "parlance/parlkeep5.LensWord", spec := "lensWord", unfollowed := true, recurses := true, plainKeys := false, apart := false }
def LensWordSaid : Prop := lensWordRow.holds Try.pinned (OpenSpec.ofChange lensWordSpec)

/-- ITS FALSE NEIGHBOUR: 'it returns false'. Refute it at one input. -/
def lensWordWrong : ChangeSpec := { name := "lensWord", fn := fun _ => fun
  | [d1, d2] => { results := [.lit (.bool false)], args := [d1, d2] }
  | _ => none }
def LensWordWrongFalsely : Prop := lensWordRow.holds Try.pinned (OpenSpec.ofChange lensWordWrong)

/-- 'parlkeep5.DrawEach': WHATEVER THE INPUT: true; the input reads as it did. -/
def drawEachSpec : ChangeSpec := { name := "drawEach", fn := fun _ => fun
  | [d1, d2] => { results := [.lit (.bool true)], args := [d1, d2] }
  | _ => none }
def drawEachRow : OpenClaim := { program := "ythanhegomgbgbaa", sum := "382428ac532618d9495e807649fe6a27b3d5f3f5c30e5a2adec4339b195e78b1", func := "parlance/parlkeep5.DrawEach", spec := "drawEach", recurses := true, plainKeys := false, apart := false }
def DrawEachSaid : Prop := drawEachRow.holds Try.pinned (OpenSpec.ofChange drawEachSpec)

/-- ITS FALSE NEIGHBOUR: 'it returns false'. Refute it at one input. -/
def drawEachWrong : ChangeSpec := { name := "drawEach", fn := fun _ => fun
  | [d1, d2] => { results := [.lit (.bool false)], args := [d1, d2] }
  | _ => none }
def DrawEachWrongFalsely : Prop := drawEachRow.holds Try.pinned (OpenSpec.ofChange drawEachWrong)

/-- 'parlkeep5.TeachDiffers': WHATEVER THE INPUT: true; the input reads as it did. -/
def teachDiffersSpec : ChangeSpec := { name := "teachDiffers", fn := fun _ => fun
  | [d1, d2] => { results := [.lit (.bool true)], args := [d1, d2] }
  | _ => none }
def teachDiffersRow : OpenClaim := { program := "ythanhegomgbgbaa", sum := "382428ac532618d9495e807649fe6a27b3d5f3f5c30e5a2adec4339b195e78b1", func := "parlance/parlkeep5.TeachDiffers", spec := "teachDiffers", unfollowed := true, recurses := true, plainKeys := false, apart := false }
def TeachDiffersSaid : Prop := teachDiffersRow.holds Try.pinned (OpenSpec.ofChange teachDiffersSpec)

/-- ITS FALSE NEIGHBOUR: 'it returns false'. Refute it at one input. -/
def teachDiffersWrong : ChangeSpec := { name := "teachDiffers", fn := fun _ => fun
  | [d1, d2] => { results := [.lit (.bool false)], args := [d1, d2] }
  | _ => none }
def TeachDiffersWrongFalsely : Prop := teachDiffersRow.holds Try.pinned (OpenSpec.ofChange teachDiffersWrong)

/- THE SECOND FORM. 'bulk': how many values and letters a reading holds, each counted each time it is reached (what is shared counts as often as it is met; a slice's spare places count too). A statement '..UptoSaid' is the law's where the arguments, and the package variables that the reading takes, are together of bulk at most 1048576: NARROWER than '..Said'. Prove '..Said' where nothing that the law and all that it calls make is longer than what came in: it says more and counts as full. Else prove '..UptoSaid'. A law counts once. -/
mutual
def uptoBulk {H : Type} : DataW H → Nat
  | .lit (.string bytes) => bytes.length + 1
  | .lit _ => 1
  | .nil => 1
  | .ptr d => uptoBulk d + 1
  | .slice elems spare => uptoBulkAll elems + uptoBulkAll spare + 1
  | .agg parts => uptoBulkAll parts + 1
  | .iface _ d => uptoBulk d + 1
  | .map entries => uptoBulkEntries entries + 1
  | .held _ => 1
def uptoBulkAll {H : Type} : List (DataW H) → Nat
  | [] => 0
  | d :: r => uptoBulk d + uptoBulkAll r
def uptoBulkEntries {H : Type} : List (Lit × DataW H) → Nat
  | [] => 0
  | x :: r => uptoBulkEntry x + uptoBulkEntries r
def uptoBulkEntry {H : Type} : Lit × DataW H → Nat
  | (.string bytes, d) => bytes.length + uptoBulk d + 1
  | (_, d) => uptoBulk d + 1
 end
def uptoSmall : (H : Type) → List (DataW H) → Bool := fun _ ds => decide (uptoBulkAll ds ≤ 1048576)
def OpenSpec.upto (s : _root_.Go.ChangeSpec) : _root_.Go.OpenSpec := { _root_.Go.OpenSpec.ofChange s with cond := some uptoSmall }

/-- 'parlkeep5.RankFirst', WHERE WHAT IT READS IS OF BULK AT MOST 1048576: true; the input reads as it did. -/
def rankFirstUptoRow : OpenClaim := { program := "ythanhegomgbgbaa", sum := "382428ac532618d9495e807649fe6a27b3d5f3f5c30e5a2adec4339b195e78b1", func := "parlance/parlkeep5.RankFirst", spec := "rankFirst", unfollowed := true, recurses := true, plainKeys := false, apart := false, narrowed := true }
def RankFirstUptoSaid : Prop := rankFirstUptoRow.holds Try.pinned (OpenSpec.upto rankFirstSpec)

/-- 'parlkeep5.CensusLeast', WHERE WHAT IT READS IS OF BULK AT MOST 1048576: true; the input reads as it did. -/
def censusLeastUptoRow : OpenClaim := { program := "ythanhegomgbgbaa", sum := "382428ac532618d9495e807649fe6a27b3d5f3f5c30e5a2adec4339b195e78b1", func := "parlance/parlkeep5.CensusLeast", spec := "censusLeast", unfollowed := true, recurses := true, plainKeys := false, apart := false, narrowed := true }
def CensusLeastUptoSaid : Prop := censusLeastUptoRow.holds Try.pinned (OpenSpec.upto censusLeastSpec)

/-- 'parlkeep5.LensLonger', WHERE WHAT IT READS IS OF BULK AT MOST 1048576: true; the input reads as it did. -/
def lensLongerUptoRow : OpenClaim := { program := "ythanhegomgbgbaa", sum := "382428ac532618d9495e807649fe6a27b3d5f3f5c30e5a2adec4339b195e78b1", func := "parlance/parlkeep5.LensLonger", spec := "lensLonger", unfollowed := true, recurses := true, plainKeys := false, apart := false, narrowed := true }
def LensLongerUptoSaid : Prop := lensLongerUptoRow.holds Try.pinned (OpenSpec.upto lensLongerSpec)

/-- 'parlkeep5.ShrinkTree', WHERE WHAT IT READS IS OF BULK AT MOST 1048576: true; the input reads as it did. -/
def shrinkTreeUptoRow : OpenClaim := { program := "ythanhegomgbgbaa", sum := "382428ac532618d9495e807649fe6a27b3d5f3f5c30e5a2adec4339b195e78b1", func := "parlance/parlkeep5.ShrinkTree", spec := "shrinkTree", unfollowed := true, recurses := true, plainKeys := false, apart := false, narrowed := true }
def ShrinkTreeUptoSaid : Prop := shrinkTreeUptoRow.holds Try.pinned (OpenSpec.upto shrinkTreeSpec)

/-- 'parlkeep5.RankTrees', WHERE WHAT IT READS IS OF BULK AT MOST 1048576: true; the input reads as it did. -/
def rankTreesUptoRow : OpenClaim := { program := "ythanhegomgbgbaa", sum := "382428ac532618d9495e807649fe6a27b3d5f3f5c30e5a2adec4339b195e78b1", func := "parlance/parlkeep5.RankTrees", spec := "rankTrees", unfollowed := true, recurses := true, plainKeys := false, apart := false, narrowed := true }
def RankTreesUptoSaid : Prop := rankTreesUptoRow.holds Try.pinned (OpenSpec.upto rankTreesSpec)

/-- 'parlkeep5.RankBack', WHERE WHAT IT READS IS OF BULK AT MOST 1048576: true; the input reads as it did. -/
def rankBackUptoRow : OpenClaim := { program := "ythanhegomgbgbaa", sum := "382428ac532618d9495e807649fe6a27b3d5f3f5c30e5a2adec4339b195e78b1", func := "parlance/parlkeep5.RankBack", spec := "rankBack", unfollowed := true, recurses := true, plainKeys := false, apart := false, narrowed := true }
def RankBackUptoSaid : Prop := rankBackUptoRow.holds Try.pinned (OpenSpec.upto rankBackSpec)

/-- 'parlkeep5.DrawTree', WHERE WHAT IT READS IS OF BULK AT MOST 1048576: true; the input reads as it did. -/
def drawTreeUptoRow : OpenClaim := { program := "ythanhegomgbgbaa", sum := "382428ac532618d9495e807649fe6a27b3d5f3f5c30e5a2adec4339b195e78b1", func := "parlance/parlkeep5.DrawTree", spec := "drawTree", unfollowed := true, recurses := true, plainKeys := false, apart := false, narrowed := true }
def DrawTreeUptoSaid : Prop := drawTreeUptoRow.holds Try.pinned (OpenSpec.upto drawTreeSpec)

/-- 'parlkeep5.LensWord', WHERE WHAT IT READS IS OF BULK AT MOST 1048576: true; the input reads as it did. -/
def lensWordUptoRow : OpenClaim := { program := "ythanhegomgbgbaa", sum := "382428ac532618d9495e807649fe6a27b3d5f3f5c30e5a2adec4339b195e78b1", func := "parlance/parlkeep5.LensWord", spec := "lensWord", unfollowed := true, recurses := true, plainKeys := false, apart := false, narrowed := true }
def LensWordUptoSaid : Prop := lensWordUptoRow.holds Try.pinned (OpenSpec.upto lensWordSpec)

/-- 'parlkeep5.DrawEach', WHERE WHAT IT READS IS OF BULK AT MOST 1048576: true; the input reads as it did. -/
def drawEachUptoRow : OpenClaim := { program := "ythanhegomgbgbaa", sum := "382428ac532618d9495e807649fe6a27b3d5f3f5c30e5a2adec4339b195e78b1", func := "parlance/parlkeep5.DrawEach", spec := "drawEach", recurses := true, plainKeys := false, apart := false, narrowed := true }
def DrawEachUptoSaid : Prop := drawEachUptoRow.holds Try.pinned (OpenSpec.upto drawEachSpec)

/-- 'parlkeep5.TeachDiffers', WHERE WHAT IT READS IS OF BULK AT MOST 1048576: true; the input reads as it did. -/
def teachDiffersUptoRow : OpenClaim := { program := "ythanhegomgbgbaa", sum := "382428ac532618d9495e807649fe6a27b3d5f3f5c30e5a2adec4339b195e78b1", func := "parlance/parlkeep5.TeachDiffers", spec := "teachDiffers", unfollowed := true, recurses := true, plainKeys := false, apart := false, narrowed := true }
def TeachDiffersUptoSaid : Prop := teachDiffersUptoRow.holds Try.pinned (OpenSpec.upto teachDiffersSpec)

end Rows
end Go.Proofs.Ythanhegomgbgbaa
