/-
  No cell of these rows narrows 'for every input' (looked for: loops, veiled, ifaces, maps, wideKeys, modest, calm, conditions, laid).
  DERIVED. THE GIVEN ROWS OF THIS SEAT. 10 by the template 'for every input the law returns true; each argument reads behind the call as it read before'; 0 by the template 'total and deterministic' (their statements: YtmfahplimnakcaaTotals.lean).
  GIVEN WITH THE SEED: the statements are not yours to turn. If you find one false, say at which input.
  Laid BY PROGRAM, IN A SANDBOX (cutbox-rows.mjs): the forced cells as the released guide's own fill.sh prints them over the translation 6ff61de883c4765f… (all of the seat's roots in one cut). By AI agents, Wed Nov 11 2026. No macro, syntax, notation, axiom, sorry.
-/
import Derived.Test.YtmfahplimnakcaaChecked
import GoSem.Claim
import GoSem.ClaimJoined
import GoSem.ClaimMapViews
import Derived.JoinedTies
import Derived.KernelRfl
namespace Go.Proofs.Ytmfahplimnakcaa
/- THE CELL 'sum', in the pinned program and in every row, IS THE sha256 OF THE DUMP (.gsa) THAT YtmfahplimnakcaaProg.lean LOADS. Nothing in Lean hashes anything: it is a label: what it is worth is what the hold of that sum in a sandbox is worth. -/
noncomputable def Try.pinned : Pinned := { name := "ytmfahplimnakcaa", sum := "6ff61de883c4765f789f905d4db393e473a10679ef63d406799b04323cb1480a", checked := Try.checked }
namespace Rows
def none {H : Type} : Left H := { results := [], args := [] }

/-- 'parlkeep5.TeachKeeps': WHATEVER THE INPUT: true; the input reads as it did. -/
def teachKeepsSpec : ChangeSpec := { name := "teachKeeps", fn := fun _ => fun
  | [d1, d2] => { results := [.lit (.bool true)], args := [d1, d2] }
  | _ => none }
def teachKeepsRow : OpenClaim := { program := "ytmfahplimnakcaa", sum := "6ff61de883c4765f789f905d4db393e473a10679ef63d406799b04323cb1480a", func := "parlance/parlkeep5.TeachKeeps", spec := "teachKeeps", unfollowed := true, recurses := true, plainKeys := false, apart := false }
def TeachKeepsSaid : Prop := teachKeepsRow.holds Try.pinned (OpenSpec.ofChange teachKeepsSpec)

/-- ITS FALSE NEIGHBOUR: 'it returns false'. Refute it at one input. -/
def teachKeepsWrong : ChangeSpec := { name := "teachKeeps", fn := fun _ => fun
  | [d1, d2] => { results := [.lit (.bool false)], args := [d1, d2] }
  | _ => none }
def TeachKeepsWrongFalsely : Prop := teachKeepsRow.holds Try.pinned (OpenSpec.ofChange teachKeepsWrong)

/-- 'parlkeep5.CompareOther': WHATEVER THE INPUT: true; the input reads as it did. -/
def compareOtherSpec : ChangeSpec := { name := "compareOther", fn := fun _ => fun
  | [d1, d2] => { results := [.lit (.bool true)], args := [d1, d2] }
  | _ => none }
def compareOtherRow : OpenClaim := { program := "ytmfahplimnakcaa", sum := "6ff61de883c4765f789f905d4db393e473a10679ef63d406799b04323cb1480a", func := "parlance/parlkeep5.CompareOther", spec := "compareOther", unfollowed := true, recurses := true, plainKeys := false, apart := false }
def CompareOtherSaid : Prop := compareOtherRow.holds Try.pinned (OpenSpec.ofChange compareOtherSpec)

/-- ITS FALSE NEIGHBOUR: 'it returns false'. Refute it at one input. -/
def compareOtherWrong : ChangeSpec := { name := "compareOther", fn := fun _ => fun
  | [d1, d2] => { results := [.lit (.bool false)], args := [d1, d2] }
  | _ => none }
def CompareOtherWrongFalsely : Prop := compareOtherRow.holds Try.pinned (OpenSpec.ofChange compareOtherWrong)

/-- 'parlkeep5.CensusShort': WHATEVER THE INPUT: true; the input reads as it did. -/
def censusShortSpec : ChangeSpec := { name := "censusShort", fn := fun _ => fun
  | [d1, d2] => { results := [.lit (.bool true)], args := [d1, d2] }
  | _ => none }
def censusShortRow : OpenClaim := { program := "ytmfahplimnakcaa", sum := "6ff61de883c4765f789f905d4db393e473a10679ef63d406799b04323cb1480a", func := "parlance/parlkeep5.CensusShort", spec := "censusShort", unfollowed := true, recurses := true, plainKeys := false, apart := false }
def CensusShortSaid : Prop := censusShortRow.holds Try.pinned (OpenSpec.ofChange censusShortSpec)

/-- ITS FALSE NEIGHBOUR: 'it returns false'. Refute it at one input. -/
def censusShortWrong : ChangeSpec := { name := "censusShort", fn := fun _ => fun
  | [d1, d2] => { results := [.lit (.bool false)], args := [d1, d2] }
  | _ => none }
def CensusShortWrongFalsely : Prop := censusShortRow.holds Try.pinned (OpenSpec.ofChange censusShortWrong)

/-- 'parlkeep5.ShrinkTree': WHATEVER THE INPUT: true; the input reads as it did. -/
def shrinkTreeSpec : ChangeSpec := { name := "shrinkTree", fn := fun _ => fun
  | [d1, d2, d3] => { results := [.lit (.bool true)], args := [d1, d2, d3] }
  | _ => none }
def shrinkTreeRow : OpenClaim := { program := "ytmfahplimnakcaa", sum := "6ff61de883c4765f789f905d4db393e473a10679ef63d406799b04323cb1480a", func := "parlance/parlkeep5.ShrinkTree", spec := "shrinkTree", unfollowed := true, recurses := true, plainKeys := false, apart := false }
def ShrinkTreeSaid : Prop := shrinkTreeRow.holds Try.pinned (OpenSpec.ofChange shrinkTreeSpec)

/-- ITS FALSE NEIGHBOUR: 'it returns false'. Refute it at one input. -/
def shrinkTreeWrong : ChangeSpec := { name := "shrinkTree", fn := fun _ => fun
  | [d1, d2, d3] => { results := [.lit (.bool false)], args := [d1, d2, d3] }
  | _ => none }
def ShrinkTreeWrongFalsely : Prop := shrinkTreeRow.holds Try.pinned (OpenSpec.ofChange shrinkTreeWrong)

/-- 'parlkeep5.LensTrees': WHATEVER THE INPUT: true; the input reads as it did. -/
def lensTreesSpec : ChangeSpec := { name := "lensTrees", fn := fun _ => fun
  | [d] => { results := [.lit (.bool true)], args := [d] }
  | _ => none }
def lensTreesRow : OpenClaim := { program := "ytmfahplimnakcaa", sum := "6ff61de883c4765f789f905d4db393e473a10679ef63d406799b04323cb1480a", func := "parlance/parlkeep5.LensTrees", spec := "lensTrees", unfollowed := true, recurses := true, plainKeys := false, apart := false }
def LensTreesSaid : Prop := lensTreesRow.holds Try.pinned (OpenSpec.ofChange lensTreesSpec)

/-- ITS FALSE NEIGHBOUR: 'it returns false'. Refute it at one input. -/
def lensTreesWrong : ChangeSpec := { name := "lensTrees", fn := fun _ => fun
  | [d] => { results := [.lit (.bool false)], args := [d] }
  | _ => none }
def LensTreesWrongFalsely : Prop := lensTreesRow.holds Try.pinned (OpenSpec.ofChange lensTreesWrong)

/-- 'parlkeep5.CensusMore': WHATEVER THE INPUT: true; the input reads as it did. -/
def censusMoreSpec : ChangeSpec := { name := "censusMore", fn := fun _ => fun
  | [d1, d2, d3] => { results := [.lit (.bool true)], args := [d1, d2, d3] }
  | _ => none }
def censusMoreRow : OpenClaim := { program := "ytmfahplimnakcaa", sum := "6ff61de883c4765f789f905d4db393e473a10679ef63d406799b04323cb1480a", func := "parlance/parlkeep5.CensusMore", spec := "censusMore", unfollowed := true, recurses := true, plainKeys := false, apart := false }
def CensusMoreSaid : Prop := censusMoreRow.holds Try.pinned (OpenSpec.ofChange censusMoreSpec)

/-- ITS FALSE NEIGHBOUR: 'it returns false'. Refute it at one input. -/
def censusMoreWrong : ChangeSpec := { name := "censusMore", fn := fun _ => fun
  | [d1, d2, d3] => { results := [.lit (.bool false)], args := [d1, d2, d3] }
  | _ => none }
def CensusMoreWrongFalsely : Prop := censusMoreRow.holds Try.pinned (OpenSpec.ofChange censusMoreWrong)

/-- 'parlkeep5.RankFirst': WHATEVER THE INPUT: true; the input reads as it did. -/
def rankFirstSpec : ChangeSpec := { name := "rankFirst", fn := fun _ => fun
  | [d1, d2, d3] => { results := [.lit (.bool true)], args := [d1, d2, d3] }
  | _ => none }
def rankFirstRow : OpenClaim := { program := "ytmfahplimnakcaa", sum := "6ff61de883c4765f789f905d4db393e473a10679ef63d406799b04323cb1480a", func := "parlance/parlkeep5.RankFirst", spec := "rankFirst", unfollowed := true, recurses := true, plainKeys := false, apart := false }
def RankFirstSaid : Prop := rankFirstRow.holds Try.pinned (OpenSpec.ofChange rankFirstSpec)

/-- ITS FALSE NEIGHBOUR: 'it returns false'. Refute it at one input. -/
def rankFirstWrong : ChangeSpec := { name := "rankFirst", fn := fun _ => fun
  | [d1, d2, d3] => { results := [.lit (.bool false)], args := [d1, d2, d3] }
  | _ => none }
def RankFirstWrongFalsely : Prop := rankFirstRow.holds Try.pinned (OpenSpec.ofChange rankFirstWrong)

/-- 'parlkeep5.CensusLeast': WHATEVER THE INPUT: true; the input reads as it did. -/
def censusLeastSpec : ChangeSpec := { name := "censusLeast", fn := fun _ => fun
  | [d] => { results := [.lit (.bool true)], args := [d] }
  | _ => none }
def censusLeastRow : OpenClaim := { program := "ytmfahplimnakcaa", sum := "6ff61de883c4765f789f905d4db393e473a10679ef63d406799b04323cb1480a", func := "parlance/parlkeep5.CensusLeast", spec := "censusLeast", unfollowed := true, recurses := true, plainKeys := false, apart := false }
def CensusLeastSaid : Prop := censusLeastRow.holds Try.pinned (OpenSpec.ofChange censusLeastSpec)

/-- ITS FALSE NEIGHBOUR: 'it returns false'. Refute it at one input. -/
def censusLeastWrong : ChangeSpec := { name := "censusLeast", fn := fun _ => fun
  | [d] => { results := [.lit (.bool false)], args := [d] }
  | _ => none }
def CensusLeastWrongFalsely : Prop := censusLeastRow.holds Try.pinned (OpenSpec.ofChange censusLeastWrong)

/-- 'parlkeep5.TeachDiffers': WHATEVER THE INPUT: true; the input reads as it did. -/
def teachDiffersSpec : ChangeSpec := { name := "teachDiffers", fn := fun _ => fun
  | [d1, d2] => { results := [.lit (.bool true)], args := [d1, d2] }
  | _ => none }
def teachDiffersRow : OpenClaim := { program := "ytmfahplimnakcaa", sum := "6ff61de883c4765f789f905d4db393e473a10679ef63d406799b04323cb1480a", func := "parlance/parlkeep5.TeachDiffers", spec := "teachDiffers", unfollowed := true, recurses := true, plainKeys := false, apart := false }
def TeachDiffersSaid : Prop := teachDiffersRow.holds Try.pinned (OpenSpec.ofChange teachDiffersSpec)

/-- ITS FALSE NEIGHBOUR: 'it returns false'. Refute it at one input. -/
def teachDiffersWrong : ChangeSpec := { name := "teachDiffers", fn := fun _ => fun
  | [d1, d2] => { results := [.lit (.bool false)], args := [d1, d2] }
  | _ => none }
def TeachDiffersWrongFalsely : Prop := teachDiffersRow.holds Try.pinned (OpenSpec.ofChange teachDiffersWrong)

/-- 'parlkeep5.LensLonger': WHATEVER THE INPUT: true; the input reads as it did. -/
def lensLongerSpec : ChangeSpec := { name := "lensLonger", fn := fun _ => fun
  | [d1, d2] => { results := [.lit (.bool true)], args := [d1, d2] }
  | _ => none }
def lensLongerRow : OpenClaim := { program := "ytmfahplimnakcaa", sum := "6ff61de883c4765f789f905d4db393e473a10679ef63d406799b04323cb1480a", func := "parlance/parlkeep5.LensLonger", spec := "lensLonger", unfollowed := true, recurses := true, plainKeys := false, apart := false }
def LensLongerSaid : Prop := lensLongerRow.holds Try.pinned (OpenSpec.ofChange lensLongerSpec)

/-- ITS FALSE NEIGHBOUR: 'it returns false'. Refute it at one input. -/
def lensLongerWrong : ChangeSpec := { name := "lensLonger", fn := fun _ => fun
  | [d1, d2] => { results := [.lit (.bool false)], args := [d1, d2] }
  | _ => none }
def LensLongerWrongFalsely : Prop := lensLongerRow.holds Try.pinned (OpenSpec.ofChange lensLongerWrong)

/- THE SECOND FORM. 'bulk': how many values and letters a reading holds, each counted each time it is reached (what is shared counts as often as it is met; a slice's spare places count too). A statement '..UptoSaid' is the law's where the arguments, and the package variables that the reading takes, are together of bulk at most 1048576: NARROWER than '..Said'. Prove '..Said' where nothing that the law and all that it calls make is longer than what came in: it says more and counts as full. Else prove '..UptoSaid'. A law counts once. -/
mutual
def uptoBulk {H : Type} : DataW H → Nat
  | .lit (.string bytes) => bytes.length + 1
  | .lit _ => 1
  | .nil => 1
  | .ptr d => uptoBulk d + 1
  | .slice elems spare => uptoBulkAll elems + uptoBulkAll spare + 1
  | .agg parts => uptoBulkAll parts + 1
  | .iface _ d => uptoBulk d + 1
  | .map entries => uptoBulkEntries entries + 1
  | .held _ => 1
def uptoBulkAll {H : Type} : List (DataW H) → Nat
  | [] => 0
  | d :: r => uptoBulk d + uptoBulkAll r
def uptoBulkEntries {H : Type} : List (Lit × DataW H) → Nat
  | [] => 0
  | x :: r => uptoBulkEntry x + uptoBulkEntries r
def uptoBulkEntry {H : Type} : Lit × DataW H → Nat
  | (.string bytes, d) => bytes.length + uptoBulk d + 1
  | (_, d) => uptoBulk d + 1
 end
def uptoSmall : (H : Type) → List (DataW H) → Bool := fun _ ds => decide (uptoBulkAll ds ≤ 1048576)
def OpenSpec.upto (s : _root_.Go.ChangeSpec) : _root_.Go.OpenSpec := { _root_.Go.OpenSpec.ofChange s with cond := some uptoSmall }

/-- 'parlkeep5.TeachKeeps', WHERE WHAT IT READS IS OF BULK AT MOST 1048576: true; the input reads as it did. -/
def teachKeepsUptoRow : OpenClaim := { program := "ytmfahplimnakcaa", sum := "6ff61de883c4765f789f905d4db393e473a10679ef63d406799b04323cb1480a", func := "parlance/parlkeep5.TeachKeeps", spec := "teachKeeps", unfollowed := true, recurses := true, plainKeys := false, apart := false, narrowed := true }
def TeachKeepsUptoSaid : Prop := teachKeepsUptoRow.holds Try.pinned (OpenSpec.upto teachKeepsSpec)

/-- 'parlkeep5.CompareOther', WHERE WHAT IT READS IS OF BULK AT MOST 1048576: true; the input reads as it did. -/
def compareOtherUptoRow : OpenClaim := { program := "ytmfahplimnakcaa", sum := "6ff61de883c4765f789f905d4db393e473a10679ef63d406799b04323cb1480a", func := "parlance/parlkeep5.CompareOther", spec := "compareOther", unfollowed := true, recurses := true, plainKeys := false, apart := false, narrowed := true }
def CompareOtherUptoSaid : Prop := compareOtherUptoRow.holds Try.pinned (OpenSpec.upto compareOtherSpec)

/-- 'parlkeep5.CensusShort', WHERE WHAT IT READS IS OF BULK AT MOST 1048576: true; the input reads as it did. -/
def censusShortUptoRow : OpenClaim := { program := "ytmfahplimnakcaa", sum := "6ff61de883c4765f789f905d4db393e473a10679ef63d406799b04323cb1480a", func := "parlance/parlkeep5.CensusShort", spec := "censusShort", unfollowed := true, recurses := true, plainKeys := false, apart := false, narrowed := true }
def CensusShortUptoSaid : Prop := censusShortUptoRow.holds Try.pinned (OpenSpec.upto censusShortSpec)

/-- 'parlkeep5.ShrinkTree', WHERE WHAT IT READS IS OF BULK AT MOST 1048576: true; the input reads as it did. -/
def shrinkTreeUptoRow : OpenClaim := { program := "ytmfahplimnakcaa", sum := "6ff61de883c4765f789f905d4db393e473a10679ef63d406799b04323cb1480a", func := "parlance/parlkeep5.ShrinkTree", spec := "shrinkTree", unfollowed := true, recurses := true, plainKeys := false, apart := false, narrowed := true }
def ShrinkTreeUptoSaid : Prop := shrinkTreeUptoRow.holds Try.pinned (OpenSpec.upto shrinkTreeSpec)

/-- 'parlkeep5.LensTrees', WHERE WHAT IT READS IS OF BULK AT MOST 1048576: true; the input reads as it did. -/
def lensTreesUptoRow : OpenClaim := { program := "ytmfahplimnakcaa", sum := "6ff61de883c4765f789f905d4db393e473a10679ef63d406799b04323cb1480a", func := "parlance/parlkeep5.LensTrees", spec := "lensTrees", unfollowed := true, recurses := true, plainKeys := false, apart := false, narrowed := true }
def LensTreesUptoSaid : Prop := lensTreesUptoRow.holds Try.pinned (OpenSpec.upto lensTreesSpec)

/-- 'parlkeep5.CensusMore', WHERE WHAT IT READS IS OF BULK AT MOST 1048576: true; the input reads as it did. -/
def censusMoreUptoRow : OpenClaim := { program := "ytmfahplimnakcaa", sum := "6ff61de883c4765f789f905d4db393e473a10679ef63d406799b04323cb1480a", func := "parlance/parlkeep5.CensusMore", spec := "censusMore", unfollowed := true, recurses := true, plainKeys := false, apart := false, narrowed := true }
def CensusMoreUptoSaid : Prop := censusMoreUptoRow.holds Try.pinned (OpenSpec.upto censusMoreSpec)

/-- 'parlkeep5.RankFirst', WHERE WHAT IT READS IS OF BULK AT MOST 1048576: true; the input reads as it did. -/
def rankFirstUptoRow : OpenClaim := { program := "ytmfahplimnakcaa", sum := "6ff61de883c4765f789f905d4db393e473a10679ef63d406799b04323cb1480a", func := "parlance/parlkeep5.RankFirst", spec := "rankFirst", unfollowed := true, recurses := true, plainKeys := false, apart := false, narrowed := true }
def RankFirstUptoSaid : Prop := rankFirstUptoRow.holds Try.pinned (OpenSpec.upto rankFirstSpec)

/-- 'parlkeep5.CensusLeast', WHERE WHAT IT READS IS OF BULK AT MOST 1048576: true; the input reads as it did. -/
def censusLeastUptoRow : OpenClaim := { program := "ytmfahplimnakcaa", sum := "6ff61de883c4765f789f905d4db393e473a10679ef63d406799b04323cb1480a", func := "parlance/parlkeep5.CensusLeast", spec := "censusLeast", unfollowed := true, recurses := true, plainKeys := false, apart := false, narrowed := true }
def CensusLeastUptoSaid : Prop := censusLeastUptoRow.holds Try.pinned (OpenSpec.upto censusLeastSpec)

/-- 'parlkeep5.TeachDiffers', WHERE WHAT IT READS IS OF BULK AT MOST 1048576: true; the input reads as it did. -/
def teachDiffersUptoRow : OpenClaim := { program := "ytmfahplimnakcaa", sum := "6ff61de883c4765f789f905d4db393e473a10679ef63d406799b04323cb1480a", func := "parlance/parlkeep5.TeachDiffers", spec := "teachDiffers", unfollowed := true, recurses := true, plainKeys := false, apart := false, narrowed := true }
def TeachDiffersUptoSaid : Prop := teachDiffersUptoRow.holds Try.pinned (OpenSpec.upto teachDiffersSpec)

/-- 'parlkeep5.LensLonger', WHERE WHAT IT READS IS OF BULK AT MOST 1048576: true; the input reads as it did. -/
def lensLongerUptoRow : OpenClaim := { program := "ytmfahplimnakcaa", sum := "6ff61de883c4765f789f905d4db393e473a10679ef63d406799b04323cb1480a", func := "parlance/parlkeep5.LensLonger", spec := "lensLonger", unfollowed := true, recurses := true, plainKeys := false, apart := false, narrowed := true }
def LensLongerUptoSaid : Prop := lensLongerUptoRow.holds Try.pinned (OpenSpec.upto lensLongerSpec)

end Rows
end Go.Proofs.Ytmfahplimnakcaa
