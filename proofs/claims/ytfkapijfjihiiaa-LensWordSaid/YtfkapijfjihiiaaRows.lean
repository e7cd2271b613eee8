/-
  No cell of these rows narrows 'for every input' (looked for: loops, veiled, ifaces, maps, wideKeys, modest, calm, conditions, laid).
  DERIVED. THE GIVEN ROWS OF THIS SEAT. 6 by the template 'for every input the law returns true; each argument reads behind the call as it read before'; 0 by the template 'total and deterministic' (their statements: YtfkapijfjihiiaaTotals.lean).
  GIVEN WITH THE SEED: the statements are not yours to turn. If you find one false, say at which input.
  Laid BY PROGRAM, IN A SANDBOX (cutbox-rows.mjs): the forced cells as the released guide's own fill.sh prints them over the translation 80848449f9186153… (all of the seat's roots in one cut). By AI agents, Wed Nov 11 2026. No macro, syntax, notation, axiom, sorry.
-/
import Derived.Test.YtfkapijfjihiiaaChecked
import GoSem.Claim
import GoSem.ClaimJoined
import GoSem.ClaimMapViews
import Derived.JoinedTies
import Derived.KernelRfl
namespace Go.Proofs.Ytfkapijfjihiiaa
/- THE CELL 'sum', in the pinned program and in every row, IS THE sha256 OF THE DUMP (.gsa) THAT YtfkapijfjihiiaaProg.lean LOADS. Nothing in Lean hashes anything: it is a label: what it is worth is what the hold of that sum in a sandbox is worth. -/
noncomputable def Try.pinned : Pinned := { name := "ytfkapijfjihiiaa", sum := "80848449f9186153f49d09ff87c09307851506c46579ce7e43029852c2369e3d", checked := Try.checked }
namespace Rows
def none {H : Type} : Left H := { results := [], args := [] }

/-- 'parlkeep5.LensLonger': WHATEVER THE INPUT: true; the input reads as it did. -/
def lensLongerSpec : ChangeSpec := { name := "lensLonger", fn := fun _ => fun
  | [d1, d2] => { results := [.lit (.bool true)], args := [d1, d2] }
  | _ => none }
def lensLongerRow : OpenClaim := { program := "ytfkapijfjihiiaa", sum := "80848449f9186153f49d09ff87c09307851506c46579ce7e43029852c2369e3d", func := "parlance/parlkeep5.LensLonger", spec := "lensLonger", unfollowed := true, recurses := true, plainKeys := false, apart := false }
def LensLongerSaid : Prop := lensLongerRow.holds Try.pinned (OpenSpec.ofChange lensLongerSpec)

/-- ITS FALSE NEIGHBOUR: 'it returns false'. Refute it at one input. -/
def lensLongerWrong : ChangeSpec := { name := "lensLonger", fn := fun _ => fun
  | [d1, d2] => { results := [.lit (.bool false)], args := [d1, d2] }
  | _ => none }
def LensLongerWrongFalsely : Prop := lensLongerRow.holds Try.pinned (OpenSpec.ofChange lensLongerWrong)

/-- 'parlkeep5.LensWord': WHATEVER THE INPUT: true; the input reads as it did. -/
def lensWordSpec : ChangeSpec := { name := "lensWord", fn := fun _ => fun
  | [d1, d2] => { results := [.lit (.bool true)], args := [d1, d2] }
  | _ => none }
def lensWordRow : OpenClaim := { program := "ytfkapijfjihiiaa", sum := "80848449f9186153f49d09ff87c09307851506c46579ce7e43029852c2369e3d", func := "parlance/parlkeep5.LensWord", spec := "lensWord", unfollowed := true, recurses := true, plainKeys := false, apart := false }
def LensWordSaid : Prop := lensWordRow.holds Try.pinned (OpenSpec.ofChange lensWordSpec)

/-- ITS FALSE NEIGHBOUR: 'it returns false'. Refute it at one input. -/
def lensWordWrong : ChangeSpec := { name := "lensWord", fn := fun _ => fun
  | [d1, d2] => { results := [.lit (.bool false)], args := [d1, d2] }
  | _ => none }
def LensWordWrongFalsely : Prop := lensWordRow.holds Try.pinned (OpenSpec.ofChange lensWordWrong)

/-- 'parlkeep5.TeachDiffers': WHATEVER THE INPUT: true; the input reads as it did. -/
def teachDiffersSpec : ChangeSpec := { name := "teachDiffers", fn := fun _ => fun
  | [d1, d2] => { results := [.lit (.bool true)], args := [d1, d2] }
  | _ => none }
def teachDiffersRow : OpenClaim := { program := "ytfkapijfjihiiaa", sum := "80848449f9186153f49d09ff87c09307851506c46579ce7e43029852c2369e3d", func := "parlance/parlkeep5.TeachDiffers", spec := "teachDiffers", unfollowed := true, recurses := true, plainKeys := false, apart := false }
def TeachDiffersSaid : Prop := teachDiffersRow.holds Try.pinned (OpenSpec.ofChange teachDiffersSpec)

/-- ITS FALSE NEIGHBOUR: 'it returns false'. Refute it at one input. -/
def teachDiffersWrong : ChangeSpec := { name := "teachDiffers", fn := fun _ => fun
  | [d1, d2] => { results := [.lit (.bool false)], args := [d1, d2] }
  | _ => none }
def TeachDiffersWrongFalsely : Prop := teachDiffersRow.holds Try.pinned (OpenSpec.ofChange teachDiffersWrong)

/-- 'parlkeep5.MergeAgrees': WHATEVER THE INPUT: true; the input reads as it did. -/
def mergeAgreesSpec : ChangeSpec := { name := "mergeAgrees", fn := fun _ => fun
  | [d1, d2] => { results := [.lit (.bool true)], args := [d1, d2] }
  | _ => none }
def mergeAgreesRow : OpenClaim := { program := "ytfkapijfjihiiaa", sum := "80848449f9186153f49d09ff87c09307851506c46579ce7e43029852c2369e3d", func := "parlance/parlkeep5.MergeAgrees", spec := "mergeAgrees", unfollowed := true, recurses := true, plainKeys := false, apart := false }
def MergeAgreesSaid : Prop := mergeAgreesRow.holds Try.pinned (OpenSpec.ofChange mergeAgreesSpec)

/-- ITS FALSE NEIGHBOUR: 'it returns false'. Refute it at one input. -/
def mergeAgreesWrong : ChangeSpec := { name := "mergeAgrees", fn := fun _ => fun
  | [d1, d2] => { results := [.lit (.bool false)], args := [d1, d2] }
  | _ => none }
def MergeAgreesWrongFalsely : Prop := mergeAgreesRow.holds Try.pinned (OpenSpec.ofChange mergeAgreesWrong)

/-- 'parlkeep5.MergeOrder': WHATEVER THE INPUT: true; the input reads as it did. -/
def mergeOrderSpec : ChangeSpec := { name := "mergeOrder", fn := fun _ => fun
  | [d1, d2, d3] => { results := [.lit (.bool true)], args := [d1, d2, d3] }
  | _ => none }
def mergeOrderRow : OpenClaim := { program := "ytfkapijfjihiiaa", sum := "80848449f9186153f49d09ff87c09307851506c46579ce7e43029852c2369e3d", func := "parlance/parlkeep5.MergeOrder", spec := "mergeOrder", unfollowed := true, recurses := true, plainKeys := false, apart := false }
def MergeOrderSaid : Prop := mergeOrderRow.holds Try.pinned (OpenSpec.ofChange mergeOrderSpec)

/-- ITS FALSE NEIGHBOUR: 'it returns false'. Refute it at one input. -/
def mergeOrderWrong : ChangeSpec := { name := "mergeOrder", fn := fun _ => fun
  | [d1, d2, d3] => { results := [.lit (.bool false)], args := [d1, d2, d3] }
  | _ => none }
def MergeOrderWrongFalsely : Prop := mergeOrderRow.holds Try.pinned (OpenSpec.ofChange mergeOrderWrong)

/-- 'parlkeep5.MergeSmall': WHATEVER THE INPUT: true; the input reads as it did. -/
def mergeSmallSpec : ChangeSpec := { name := "mergeSmall", fn := fun _ => fun
  | [d1, d2] => { results := [.lit (.bool true)], args := [d1, d2] }
  | _ => none }
def mergeSmallRow : OpenClaim := { program := "ytfkapijfjihiiaa", sum := "80848449f9186153f49d09ff87c09307851506c46579ce7e43029852c2369e3d", func := "parlance/parlkeep5.MergeSmall", spec := "mergeSmall", unfollowed := true, recurses := true, plainKeys := false, apart := false }
def MergeSmallSaid : Prop := mergeSmallRow.holds Try.pinned (OpenSpec.ofChange mergeSmallSpec)

/-- ITS FALSE NEIGHBOUR: 'it returns false'. Refute it at one input. -/
def mergeSmallWrong : ChangeSpec := { name := "mergeSmall", fn := fun _ => fun
  | [d1, d2] => { results := [.lit (.bool false)], args := [d1, d2] }
  | _ => none }
def MergeSmallWrongFalsely : Prop := mergeSmallRow.holds Try.pinned (OpenSpec.ofChange mergeSmallWrong)

/- THE SECOND FORM. 'bulk': how many values and letters a reading holds, each counted each time it is reached (what is shared counts as often as it is met; a slice's spare places count too). A statement '..UptoSaid' is the law's where the arguments, and the package variables that the reading takes, are together of bulk at most 1048576: NARROWER than '..Said'. Prove '..Said' where nothing that the law and all that it calls make is longer than what came in: it says more and counts as full. Else prove '..UptoSaid'. A law counts once. -/
mutual
def uptoBulk {H : Type} : DataW H → Nat
  | .lit (.string bytes) => bytes.length + 1
  | .lit _ => 1
  | .nil => 1
  | .ptr d => uptoBulk d + 1
  | .slice elems spare => uptoBulkAll elems + uptoBulkAll spare + 1
  | .agg parts => uptoBulkAll parts + 1
  | .iface _ d => uptoBulk d + 1
  | .map entries => uptoBulkEntries entries + 1
  | .held _ => 1
def uptoBulkAll {H : Type} : List (DataW H) → Nat
  | [] => 0
  | d :: r => uptoBulk d + uptoBulkAll r
def uptoBulkEntries {H : Type} : List (Lit × DataW H) → Nat
  | [] => 0
  | x :: r => uptoBulkEntry x + uptoBulkEntries r
def uptoBulkEntry {H : Type} : Lit × DataW H → Nat
  | (.string bytes, d) => bytes.length + uptoBulk d + 1
  | (_, d) => uptoBulk d + 1
 end
def uptoSmall : (H : Type) → List (DataW H) → Bool := fun _ ds => decide (uptoBulkAll ds ≤ 1048576)
def OpenSpec.upto (s : _root_.Go.ChangeSpec) : _root_.Go.OpenSpec := { _root_.Go.OpenSpec.ofChange s with cond := some uptoSmall }

/-- 'parlkeep5.LensLonger', WHERE WHAT IT READS IS OF BULK AT MOST 1048576: true; the input reads as it did. -/
def lensLongerUptoRow : OpenClaim := { program := "ytfkapijfjihiiaa", sum := "80848449f9186153f49d09ff87c09307851506c46579ce7e43029852c2369e3d", func := "parlance/parlkeep5.LensLonger", spec := "lensLonger", unfollowed := true, recurses := true, plainKeys := false, apart := false, narrowed := true }
def LensLongerUptoSaid : Prop := lensLongerUptoRow.holds Try.pinned (OpenSpec.upto lensLongerSpec)

/-- 'parlkeep5.LensWord', WHERE WHAT IT READS IS OF BULK AT MOST 1048576: true; the input reads as it did. -/
def lensWordUptoRow : OpenClaim := { program := "ytfkapijfjihiiaa", sum := "80848449f9186153f49d09ff87c09307851506c46579ce7e43029852c2369e3d", func := "parlance/parlkeep5.LensWord", spec := "lensWord", unfollowed := true, recurses := true, plainKeys := false, apart := false, narrowed := true }
def LensWordUptoSaid : Prop := lensWordUptoRow.holds Try.pinned (OpenSpec.upto lensWordSpec)

/-- 'parlkeep5.TeachDiffers', WHERE WHAT IT READS IS OF BULK AT MOST 1048576: true; the input reads as it did. -/
def teachDiffersUptoRow : OpenClaim := { program := "ytfkapijfjihiiaa", sum := "80848449f9186153f49d09ff87c09307851506c46579ce7e43029852c2369e3d", func := "parlance/parlkeep5.TeachDiffers", spec := "teachDiffers", unfollowed := true, recurses := true, plainKeys := false, apart := false, narrowed := true }
def TeachDiffersUptoSaid : Prop := teachDiffersUptoRow.holds Try.pinned (OpenSpec.upto teachDiffersSpec)

/-- 'parlkeep5.MergeAgrees', WHERE WHAT IT READS IS OF BULK AT MOST 1048576: true; the input reads as it did. -/
def mergeAgreesUptoRow : OpenClaim := { program := "ytfkapijfjihiiaa", sum := "80848449f9186153f49d09ff87c09307851506c46579ce7e43029852c2369e3d", func := "parlance/parlkeep5.MergeAgrees", spec := "mergeAgrees", unfollowed := true, recurses := true, plainKeys := false, apart := false, narrowed := true }
def MergeAgreesUptoSaid : Prop := mergeAgreesUptoRow.holds Try.pinned (OpenSpec.upto mergeAgreesSpec)

/-- 'parlkeep5.MergeOrder', WHERE WHAT IT READS IS OF BULK AT MOST 1048576: true; the input reads as it did. -/
def mergeOrderUptoRow : OpenClaim := { program := "ytfkapijfjihiiaa", sum := "80848449f9186153f49d09ff87c09307851506c46579ce7e43029852c2369e3d", func := "parlance/parlkeep5.MergeOrder", spec := "mergeOrder", unfollowed := true, recurses := true, plainKeys := false, apart := false, narrowed := true }
def MergeOrderUptoSaid : Prop := mergeOrderUptoRow.holds Try.pinned (OpenSpec.upto mergeOrderSpec)

/-- 'parlkeep5.MergeSmall', WHERE WHAT IT READS IS OF BULK AT MOST 1048576: true; the input reads as it did. -/
def mergeSmallUptoRow : OpenClaim := { program := "ytfkapijfjihiiaa", sum := "80848449f9186153f49d09ff87c09307851506c46579ce7e43029852c2369e3d", func := "parlance/parlkeep5.MergeSmall", spec := "mergeSmall", unfollowed := true, recurses := true, plainKeys := false, apart := false, narrowed := true }
def MergeSmallUptoSaid : Prop := mergeSmallUptoRow.holds Try.pinned (OpenSpec.upto mergeSmallSpec)

end Rows
end Go.Proofs.Ytfkapijfjihiiaa
