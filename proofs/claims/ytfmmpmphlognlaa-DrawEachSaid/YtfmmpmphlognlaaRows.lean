/-
  No cell of these rows narrows 'for every input' (looked for: loops, veiled, ifaces, maps, wideKeys, modest, calm, conditions, laid).
  DERIVED. THE GIVEN ROWS OF THIS SEAT. 9 by the template 'for every input the law returns true; each argument reads behind the call as it read before'; 0 by the template 'total and deterministic' (their statements: YtfmmpmphlognlaaTotals.lean).
  GIVEN WITH THE SEED: the statements are not yours to turn. If you find one false, say at which input.
  Laid BY PROGRAM, IN A SANDBOX (cutbox-rows.mjs): the forced cells as the released guide's own fill.sh prints them over the translation c2b71f1254f62f04… (all of the seat's roots in one cut). By AI agents, Wed Nov 11 2026. No macro, syntax, notation, axiom, sorry.
-/
import Derived.Test.YtfmmpmphlognlaaChecked
import GoSem.Claim
import GoSem.ClaimJoined
import GoSem.ClaimMapViews
import Derived.JoinedTies
import Derived.KernelRfl
namespace Go.Proofs.Ytfmmpmphlognlaa
/- THE CELL 'sum', in the pinned program and in every row, IS THE sha256 OF THE DUMP (.gsa) THAT YtfmmpmphlognlaaProg.lean LOADS. Nothing in Lean hashes anything: it is a label: what it is worth is what the hold of that sum in a sandbox is worth. -/
noncomputable def Try.pinned : Pinned := { name := "ytfmmpmphlognlaa", sum := "c2b71f1254f62f04d13f080a87750db6ada353eeb3df88b42870edca667fea45", checked := Try.checked }
namespace Rows
def none {H : Type} : Left H := { results := [], args := [] }

/-- 'parlkeep5.ShrinkTree': WHATEVER THE INPUT: true; the input reads as it did. -/
def shrinkTreeSpec : ChangeSpec := { name := "shrinkTree", fn := fun _ => fun
  | [d1, d2, d3] => { results := [.lit (.bool true)], args := [d1, d2, d3] }
  | _ => none }
def shrinkTreeRow : OpenClaim := { program := "ytfmmpmphlognlaa", sum := "c2b71f1254f62f04d13f080a87750db6ada353eeb3df88b42870edca667fea45", func := "parlance/parlkeep5.ShrinkTree", spec := "shrinkTree", unfollowed := true, recurses := true, plainKeys := false, apart := false }
def ShrinkTreeSaid : Prop := shrinkTreeRow.holds Try.pinned (OpenSpec.ofChange shrinkTreeSpec)

/-- ITS FALSE NEIGHBOUR: 'it returns false'. Refute it at one input. -/
def shrinkTreeWrong : ChangeSpec := { name := "shrinkTree", fn := fun _ => fun
  | [d1, d2, d3] => { results := [.lit (.bool false)], args := [d1, d2, d3] }
  | _ => none }
def ShrinkTreeWrongFalsely : Prop := shrinkTreeRow.holds Try.pinned (OpenSpec.ofChange shrinkTreeWrong)

/-- 'parlkeep5.LensLonger': WHATEVER THE INPUT: true; the input reads as it did. -/
def lensLongerSpec : ChangeSpec := { name := "lensLonger", fn := fun _ => fun
  | [d1, d2] => { results := [.lit (.bool true)], args := [d1, d2] }
  | _ => none }
def lensLongerRow : OpenClaim := { program := "ytfmmpmphlognlaa", sum := "c2b71f1254f62f04d13f080a87750db6ada353eeb3df88b42870edca667fea45", func := "parlance/parlkeep5.LensLonger", spec := "lensLonger", unfollowed := true, recurses := true, plainKeys := false, apart := false }
def LensLongerSaid : Prop := lensLongerRow.holds Try.pinned (OpenSpec.ofChange lensLongerSpec)

/-- ITS FALSE NEIGHBOUR: 'it returns false'. Refute it at one input. -/
def lensLongerWrong : ChangeSpec := { name := "lensLonger", fn := fun _ => fun
  | [d1, d2] => { results := [.lit (.bool false)], args := [d1, d2] }
  | _ => none }
def LensLongerWrongFalsely : Prop := lensLongerRow.holds Try.pinned (OpenSpec.ofChange lensLongerWrong)

/-- 'parlkeep5.LensWord': WHATEVER THE INPUT: true; the input reads as it did. -/
def lensWordSpec : ChangeSpec := { name := "lensWord", fn := fun _ => fun
  | [d1, d2] => { results := [.lit (.bool true)], args := [d1, d2] }
  | _ => none }
def lensWordRow : OpenClaim := { program := "ytfmmpmphlognlaa", sum := "c2b71f1254f62f04d13f080a87750db6ada353eeb3df88b42870edca667fea45", func := "parlance/parlkeep5.LensWord", spec := "lensWord", unfollowed := true, recurses := true, plainKeys := false, apart := false }
def LensWordSaid : Prop := lensWordRow.holds Try.pinned (OpenSpec.ofChange lensWordSpec)

/-- ITS FALSE NEIGHBOUR: 'it returns false'. Refute it at one input. -/
def lensWordWrong : ChangeSpec := { name := "lensWord", fn := fun _ => fun
  | [d1, d2] => { results := [.lit (.bool false)], args := [d1, d2] }
  | _ => none }
def LensWordWrongFalsely : Prop := lensWordRow.holds Try.pinned (OpenSpec.ofChange lensWordWrong)

/-- 'parlkeep5.DrawEach': WHATEVER THE INPUT: true; the input reads as it did. -/
def drawEachSpec : ChangeSpec := { name := "drawEach", fn := fun _ => fun
  | [d1, d2] => { results := [.lit (.bool true)], args := [d1, d2] }
  | _ => none }
def drawEachRow : OpenClaim := { program := "ytfmmpmphlognlaa", sum := "c2b71f1254f62f04d13f080a87750db6ada353eeb3df88b42870edca667fea45", func := "parlance/parlkeep5.DrawEach", spec := "drawEach", recurses := true, plainKeys := false, apart := false }
def DrawEachSaid : Prop := drawEachRow.holds Try.pinned (OpenSpec.ofChange drawEachSpec)

/-- ITS FALSE NEIGHBOUR: 'it returns false'. Refute it at one input. -/
def drawEachWrong : ChangeSpec := { name := "drawEach", fn := fun _ => fun
  | [d1, d2] => { results := [.lit (.bool false)], args := [d1, d2] }
  | _ => none }
def DrawEachWrongFalsely : Prop := drawEachRow.holds Try.pinned (OpenSpec.ofChange drawEachWrong)

/-- 'parlkeep5.TeachDiffers': WHATEVER THE INPUT: true; the input reads as it did. -/
def teachDiffersSpec : ChangeSpec := { name := "teachDiffers", fn := fun _ => fun
  | [d1, d2] => { results := [.lit (.bool true)], args := [d1, d2] }
  | _ => none }
def teachDiffersRow : OpenClaim := { program := "ytfmmpmphlognlaa", sum := "c2b71f1254f62f04d13f080a87750db6ada353eeb3df88b42870edca667fea45", func := "parlance/parlkeep5.TeachDiffers", spec := "teachDiffers", unfollowed := true, recurses := true, plainKeys := false, apart := false }
def TeachDiffersSaid : Prop := teachDiffersRow.holds Try.pinned (OpenSpec.ofChange teachDiffersSpec)

/-- ITS FALSE NEIGHBOUR: 'it returns false'. Refute it at one input. -/
def teachDiffersWrong : ChangeSpec := { name := "teachDiffers", fn := fun _ => fun
  | [d1, d2] => { results := [.lit (.bool false)], args := [d1, d2] }
  | _ => none }
def TeachDiffersWrongFalsely : Prop := teachDiffersRow.holds Try.pinned (OpenSpec.ofChange teachDiffersWrong)

/-- 'parlkeep5.LearnOnce': WHATEVER THE INPUT: true; the input reads as it did. -/
def learnOnceSpec : ChangeSpec := { name := "learnOnce", fn := fun _ => fun
  | [d] => { results := [.lit (.bool true)], args := [d] }
  | _ => none }
def learnOnceRow : OpenClaim := { program := "ytfmmpmphlognlaa", sum := "c2b71f1254f62f04d13f080a87750db6ada353eeb3df88b42870edca667fea45", func := "parlance/parlkeep5.LearnOnce", spec := "learnOnce", unfollowed := true, recurses := true, plainKeys := false, apart := false }
def LearnOnceSaid : Prop := learnOnceRow.holds Try.pinned (OpenSpec.ofChange learnOnceSpec)

/-- ITS FALSE NEIGHBOUR: 'it returns false'. Refute it at one input. -/
def learnOnceWrong : ChangeSpec := { name := "learnOnce", fn := fun _ => fun
  | [d] => { results := [.lit (.bool false)], args := [d] }
  | _ => none }
def LearnOnceWrongFalsely : Prop := learnOnceRow.holds Try.pinned (OpenSpec.ofChange learnOnceWrong)

/-- 'parlkeep5.LearnFew': WHATEVER THE INPUT: true; the input reads as it did. -/
def learnFewSpec : ChangeSpec := { name := "learnFew", fn := fun _ => fun
  | [d] => { results := [.lit (.bool true)], args := [d] }
  | _ => none }
def learnFewRow : OpenClaim := { program := "ytfmmpmphlognlaa", sum := "c2b71f1254f62f04d13f080a87750db6ada353eeb3df88b42870edca667fea45", func := "parlance/parlkeep5.LearnFew", spec := "learnFew", unfollowed := true, recurses := true, plainKeys := false, apart := false }
def LearnFewSaid : Prop := learnFewRow.holds Try.pinned (OpenSpec.ofChange learnFewSpec)

/-- ITS FALSE NEIGHBOUR: 'it returns false'. Refute it at one input. -/
def learnFewWrong : ChangeSpec := { name := "learnFew", fn := fun _ => fun
  | [d] => { results := [.lit (.bool false)], args := [d] }
  | _ => none }
def LearnFewWrongFalsely : Prop := learnFewRow.holds Try.pinned (OpenSpec.ofChange learnFewWrong)

/-- 'parlkeep5.ApproxHolds': WHATEVER THE INPUT: true; the input reads as it did. -/
def approxHoldsSpec : ChangeSpec := { name := "approxHolds", fn := fun _ => fun
  | [d1, d2] => { results := [.lit (.bool true)], args := [d1, d2] }
  | _ => none }
def approxHoldsRow : OpenClaim := { program := "ytfmmpmphlognlaa", sum := "c2b71f1254f62f04d13f080a87750db6ada353eeb3df88b42870edca667fea45", func := "parlance/parlkeep5.ApproxHolds", spec := "approxHolds", unfollowed := true, recurses := true, plainKeys := false, apart := false }
def ApproxHoldsSaid : Prop := approxHoldsRow.holds Try.pinned (OpenSpec.ofChange approxHoldsSpec)

/-- ITS FALSE NEIGHBOUR: 'it returns false'. Refute it at one input. -/
def approxHoldsWrong : ChangeSpec := { name := "approxHolds", fn := fun _ => fun
  | [d1, d2] => { results := [.lit (.bool false)], args := [d1, d2] }
  | _ => none }
def ApproxHoldsWrongFalsely : Prop := approxHoldsRow.holds Try.pinned (OpenSpec.ofChange approxHoldsWrong)

/-- 'parlkeep5.ApproxLinear': WHATEVER THE INPUT: true; the input reads as it did. -/
def approxLinearSpec : ChangeSpec := { name := "approxLinear", fn := fun _ => fun
  | [d] => { results := [.lit (.bool true)], args := [d] }
  | _ => none }
def approxLinearRow : OpenClaim := { program := "ytfmmpmphlognlaa", sum := "c2b71f1254f62f04d13f080a87750db6ada353eeb3df88b42870edca667fea45", func := "parlance/parlkeep5.ApproxLinear", spec := "approxLinear", unfollowed := true, recurses := true, plainKeys := false, apart := false }
def ApproxLinearSaid : Prop := approxLinearRow.holds Try.pinned (OpenSpec.ofChange approxLinearSpec)

/-- ITS FALSE NEIGHBOUR: 'it returns false'. Refute it at one input. -/
def approxLinearWrong : ChangeSpec := { name := "approxLinear", fn := fun _ => fun
  | [d] => { results := [.lit (.bool false)], args := [d] }
  | _ => none }
def ApproxLinearWrongFalsely : Prop := approxLinearRow.holds Try.pinned (OpenSpec.ofChange approxLinearWrong)

/- THE SECOND FORM. 'bulk': how many values and letters a reading holds, each counted each time it is reached (what is shared counts as often as it is met; a slice's spare places count too). A statement '..UptoSaid' is the law's where the arguments, and the package variables that the reading takes, are together of bulk at most 1048576: NARROWER than '..Said'. Prove '..Said' where nothing that the law and all that it calls make is longer than what came in: it says more and counts as full. Else prove '..UptoSaid'. A law counts once. -/
mutual
def uptoBulk {H : Type} : DataW H → Nat
  | .lit (.string bytes) => bytes.length + 1
  | .lit _ => 1
  | .nil => 1
  | .ptr d => uptoBulk d + 1
  | .slice elems spare => uptoBulkAll elems + uptoBulkAll spare + 1
  | .agg parts => uptoBulkAll parts + 1
  | .iface _ d => uptoBulk d + 1
  | .map entries => uptoBulkEntries entries + 1
  | .held _ => 1
def uptoBulkAll {H : Type} : List (DataW H) → Nat
  | [] => 0
  | d :: r => uptoBulk d + uptoBulkAll r
def uptoBulkEntries {H : Type} : List (Lit × DataW H) → Nat
  | [] => 0
  | x :: r => uptoBulkEntry x + uptoBulkEntries r
def uptoBulkEntry {H : Type} : Lit × DataW H → Nat
  | (.string bytes, d) => bytes.length + uptoBulk d + 1
  | (_, d) => uptoBulk d + 1
 end
def uptoSmall : (H : Type) → List (DataW H) → Bool := fun _ ds => decide (uptoBulkAll ds ≤ 1048576)
def OpenSpec.upto (s : _root_.Go.ChangeSpec) : _root_.Go.OpenSpec := { _root_.Go.OpenSpec.ofChange s with cond := some uptoSmall }

/-- 'parlkeep5.ShrinkTree', WHERE WHAT IT READS IS OF BULK AT MOST 1048576: true; the input reads as it did. -/
def shrinkTreeUptoRow : OpenClaim := { program := "ytfmmpmphlognlaa", sum := "c2b71f1254f62f04d13f080a87750db6ada353eeb3df88b42870edca667fea45", func := "parlance/parlkeep5.ShrinkTree", spec := "shrinkTree", unfollowed := true, recurses := true, plainKeys := false, apart := false, narrowed := true }
def ShrinkTreeUptoSaid : Prop := shrinkTreeUptoRow.holds Try.pinned (OpenSpec.upto shrinkTreeSpec)

/-- 'parlkeep5.LensLonger', WHERE WHAT IT READS IS OF BULK AT MOST 1048576: true; the input reads as it did. -/
def lensLongerUptoRow : OpenClaim := { program := "ytfmmpmphlognlaa", sum := "c2b71f1254f62f04d13f080a87750db6ada353eeb3df88b42870edca667fea45", func := "parlance/parlkeep5.LensLonger", spec := "lensLonger", unfollowed := true, recurses := true, plainKeys := false, apart := false, narrowed := true }
def LensLongerUptoSaid : Prop := lensLongerUptoRow.holds Try.pinned (OpenSpec.upto lensLongerSpec)

/-- 'parlkeep5.LensWord', WHERE WHAT IT READS IS OF BULK AT MOST 1048576: true; the input reads as it did. -/
def lensWordUptoRow : OpenClaim := { program := "ytfmmpmphlognlaa", sum := "c2b71f1254f62f04d13f080a87750db6ada353eeb3df88b42870edca667fea45", func := "parlance/parlkeep5.LensWord", spec := "lensWord", unfollowed := true, recurses := true, plainKeys := false, apart := false, narrowed := true }
def LensWordUptoSaid : Prop := lensWordUptoRow.holds Try.pinned (OpenSpec.upto lensWordSpec)

/-- 'parlkeep5.DrawEach', WHERE WHAT IT READS IS OF BULK AT MOST 1048576: true; the input reads as it did. -/
def drawEachUptoRow : OpenClaim := { program := "ytfmmpmphlognlaa", sum := "c2b71f1254f62f04d13f080a87750db6ada353eeb3df88b42870edca667fea45", func := "parlance/parlkeep5.DrawEach", spec := "drawEach", recurses := true, plainKeys := false, apart := false, narrowed := true }
def DrawEachUptoSaid : Prop := drawEachUptoRow.holds Try.pinned (OpenSpec.upto drawEachSpec)

/-- 'parlkeep5.TeachDiffers', WHERE WHAT IT READS IS OF BULK AT MOST 1048576: true; the input reads as it did. -/
def teachDiffersUptoRow : OpenClaim := { program := "ytfmmpmphlognlaa", sum := "c2b71f1254f62f04d13f080a87750db6ada353eeb3df88b42870edca667fea45", func := "parlance/parlkeep5.TeachDiffers", spec := "teachDiffers", unfollowed := true, recurses := true, plainKeys := false, apart := false, narrowed := true }
def TeachDiffersUptoSaid : Prop := teachDiffersUptoRow.holds Try.pinned (OpenSpec.upto teachDiffersSpec)

/-- 'parlkeep5.LearnOnce', WHERE WHAT IT READS IS OF BULK AT MOST 1048576: true; the input reads as it did. -/
def learnOnceUptoRow : OpenClaim := { program := "ytfmmpmphlognlaa", sum := "c2b71f1254f62f04d13f080a87750db6ada353eeb3df88b42870edca667fea45", func := "parlance/parlkeep5.LearnOnce", spec := "learnOnce", unfollowed := true, recurses := true, plainKeys := false, apart := false, narrowed := true }
def LearnOnceUptoSaid : Prop := learnOnceUptoRow.holds Try.pinned (OpenSpec.upto learnOnceSpec)

/-- 'parlkeep5.LearnFew', WHERE WHAT IT READS IS OF BULK AT MOST 1048576: true; the input reads as it did. -/
def learnFewUptoRow : OpenClaim := { program := "ytfmmpmphlognlaa", sum := "c2b71f1254f62f04d13f080a87750db6ada353eeb3df88b42870edca667fea45", func := "parlance/parlkeep5.LearnFew", spec := "learnFew", unfollowed := true, recurses := true, plainKeys := false, apart := false, narrowed := true }
def LearnFewUptoSaid : Prop := learnFewUptoRow.holds Try.pinned (OpenSpec.upto learnFewSpec)

/-- 'parlkeep5.ApproxHolds', WHERE WHAT IT READS IS OF BULK AT MOST 1048576: true; the input reads as it did. -/
def approxHoldsUptoRow : OpenClaim := { program := "ytfmmpmphlognlaa", sum := "c2b71f1254f62f04d13f080a87750db6ada353eeb3df88b42870edca667fea45", func := "parlance/parlkeep5.ApproxHolds", spec := "approxHolds", unfollowed := true, recurses := true, plainKeys := false, apart := false, narrowed := true }
def ApproxHoldsUptoSaid : Prop := approxHoldsUptoRow.holds Try.pinned (OpenSpec.upto approxHoldsSpec)

/-- 'parlkeep5.ApproxLinear', WHERE WHAT IT READS IS OF BULK AT MOST 1048576: true; the input reads as it did. -/
def approxLinearUptoRow : OpenClaim := { program := "ytfmmpmphlognlaa", sum := "c2b71f1254f62f04d13f080a87750db6ada353eeb3df88b42870edca667fea45", func := "parlance/parlkeep5.ApproxLinear", spec := "approxLinear", unfollowed := true, recurses := true, plainKeys := false, apart := false, narrowed := true }
def ApproxLinearUptoSaid : Prop := approxLinearUptoRow.holds Try.pinned (OpenSpec.upto approxLinearSpec)

end Rows
end Go.Proofs.Ytfmmpmphlognlaa
